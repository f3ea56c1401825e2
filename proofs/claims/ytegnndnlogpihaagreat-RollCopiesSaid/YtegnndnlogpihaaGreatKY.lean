/-
  Facts that the proof is made of (Y).
-/
import Derived.Test.YtegnndnlogpihaaGreatKL3
import Derived.Test.YtegnndnlogpihaaGreatProg
import Derived.KernelRfl
/-
  Facts on the types and the functions of the translation, printed by a program of ours.
-/
namespace Go.Sl
open Go.Proofs
instance : Mixed Tryz.prog := ⟨by kernel_rfl⟩
instance : TySz Tryz.prog 1 false 1 := ⟨⟨Tryz.t1, _, by kernel_rfl, by kernel_rfl, Tryz.underlying1, by kernel_rfl⟩⟩
instance : HasT Tryz.prog 1 := ⟨⟨_, Tryz.underlying1⟩⟩
instance : ElT Tryz.prog 1 1 := ⟨⟨Tryz.t1, (.nilFunc : Value), by kernel_rfl, by kernel_rfl, by kernel_rfl, by kernel_rfl, by decide, by decide⟩⟩
instance : ZeroT Tryz.prog 1 (.nilFunc) := ⟨⟨Tryz.t1, by kernel_rfl, by kernel_rfl⟩⟩
instance : TySz Tryz.prog 2 false 1 := ⟨⟨Tryz.t2, _, by kernel_rfl, by kernel_rfl, Tryz.underlying2, by kernel_rfl⟩⟩
instance : IntT Tryz.prog 2 .i64 := ⟨Tryz.underlying2⟩
instance : HasT Tryz.prog 2 := ⟨⟨_, Tryz.underlying2⟩⟩
instance : ElT Tryz.prog 2 1 := ⟨⟨Tryz.t2, (.int .i64 0 : Value), by kernel_rfl, by kernel_rfl, by kernel_rfl, by kernel_rfl, by decide, by decide⟩⟩
instance : ZeroT Tryz.prog 2 (.int .i64 0) := ⟨⟨Tryz.t2, by kernel_rfl, by kernel_rfl⟩⟩
instance : TySz Tryz.prog 3 false 1 := ⟨⟨Tryz.t3, _, by kernel_rfl, by kernel_rfl, Tryz.underlying3, by kernel_rfl⟩⟩
instance : IntT Tryz.prog 3 .i64 := ⟨Tryz.underlying3⟩
instance : HasT Tryz.prog 3 := ⟨⟨_, Tryz.underlying3⟩⟩
instance : ElT Tryz.prog 3 1 := ⟨⟨Tryz.t3, (.int .i64 0 : Value), by kernel_rfl, by kernel_rfl, by kernel_rfl, by kernel_rfl, by decide, by decide⟩⟩
instance : ZeroT Tryz.prog 3 (.int .i64 0) := ⟨⟨Tryz.t3, by kernel_rfl, by kernel_rfl⟩⟩
instance : TySz Tryz.prog 4 false 1 := ⟨⟨Tryz.t4, _, by kernel_rfl, by kernel_rfl, Tryz.underlying4, by kernel_rfl⟩⟩
instance : BoolT Tryz.prog 4 := ⟨Tryz.underlying4⟩
instance : HasT Tryz.prog 4 := ⟨⟨_, Tryz.underlying4⟩⟩
instance : ElT Tryz.prog 4 1 := ⟨⟨Tryz.t4, (.bool false : Value), by kernel_rfl, by kernel_rfl, by kernel_rfl, by kernel_rfl, by decide, by decide⟩⟩
instance : ZeroT Tryz.prog 4 (.bool false) := ⟨⟨Tryz.t4, by kernel_rfl, by kernel_rfl⟩⟩
instance : TySz Tryz.prog 5 false 1 := ⟨⟨Tryz.t5, _, by kernel_rfl, by kernel_rfl, Tryz.underlying5, by kernel_rfl⟩⟩
instance : IntT Tryz.prog 5 .u8 := ⟨Tryz.underlying5⟩
instance : HasT Tryz.prog 5 := ⟨⟨_, Tryz.underlying5⟩⟩
instance : ElT Tryz.prog 5 1 := ⟨⟨Tryz.t5, (.int .u8 0 : Value), by kernel_rfl, by kernel_rfl, by kernel_rfl, by kernel_rfl, by decide, by decide⟩⟩
instance : ZeroT Tryz.prog 5 (.int .u8 0) := ⟨⟨Tryz.t5, by kernel_rfl, by kernel_rfl⟩⟩
instance : TySz Tryz.prog 6 false 1 := ⟨⟨Tryz.t6, _, by kernel_rfl, by kernel_rfl, Tryz.underlying6, by kernel_rfl⟩⟩
instance : IntT Tryz.prog 6 .u8 := ⟨Tryz.underlying6⟩
instance : HasT Tryz.prog 6 := ⟨⟨_, Tryz.underlying6⟩⟩
instance : ElT Tryz.prog 6 1 := ⟨⟨Tryz.t6, (.int .u8 0 : Value), by kernel_rfl, by kernel_rfl, by kernel_rfl, by kernel_rfl, by decide, by decide⟩⟩
instance : ZeroT Tryz.prog 6 (.int .u8 0) := ⟨⟨Tryz.t6, by kernel_rfl, by kernel_rfl⟩⟩
instance : TySz Tryz.prog 7 true 4 := ⟨⟨Tryz.t7, _, by kernel_rfl, by kernel_rfl, Tryz.underlying7, by kernel_rfl⟩⟩
instance : FOff Tryz.prog 7 0 0 := ⟨⟨_, _, Tryz.t2, Tryz.underlying7, rfl, rfl, by kernel_rfl, by decide⟩⟩
instance : FTy Tryz.prog 7 0 0 false 1 := ⟨⟨_, _, 2, Tryz.underlying7, rfl, rfl, by kernel_rfl, inferInstance⟩⟩
instance : FOff Tryz.prog 7 1 1 := ⟨⟨_, _, Tryz.t3, Tryz.underlying7, rfl, rfl, by kernel_rfl, by decide⟩⟩
instance : FTy Tryz.prog 7 1 1 false 1 := ⟨⟨_, _, 3, Tryz.underlying7, rfl, rfl, by kernel_rfl, inferInstance⟩⟩
instance : FOff Tryz.prog 7 2 2 := ⟨⟨_, _, Tryz.t4, Tryz.underlying7, rfl, rfl, by kernel_rfl, by decide⟩⟩
instance : FTy Tryz.prog 7 2 2 false 1 := ⟨⟨_, _, 4, Tryz.underlying7, rfl, rfl, by kernel_rfl, inferInstance⟩⟩
instance : FOff Tryz.prog 7 3 3 := ⟨⟨_, _, Tryz.t6, Tryz.underlying7, rfl, rfl, by kernel_rfl, by decide⟩⟩
instance : FTy Tryz.prog 7 3 3 false 1 := ⟨⟨_, _, 6, Tryz.underlying7, rfl, rfl, by kernel_rfl, inferInstance⟩⟩
instance : StructT Tryz.prog 7 := ⟨⟨_, Tryz.underlying7, by kernel_rfl⟩⟩
instance : HasT Tryz.prog 7 := ⟨⟨_, Tryz.underlying7⟩⟩
instance : ElT Tryz.prog 7 4 := ⟨⟨Tryz.t7, (.agg [.int .i64 0, .int .i64 0, .bool false, .int .u8 0].toArray : Value), by kernel_rfl, by kernel_rfl, by kernel_rfl, by kernel_rfl, by decide, by decide⟩⟩
instance : ZeroT Tryz.prog 7 (.agg [.int .i64 0, .int .i64 0, .bool false, .int .u8 0].toArray) := ⟨⟨Tryz.t7, by kernel_rfl, by kernel_rfl⟩⟩
instance : TySz Tryz.prog 8 true 4 := ⟨⟨Tryz.t8, _, by kernel_rfl, by kernel_rfl, Tryz.underlying8, by kernel_rfl⟩⟩
instance : FOff Tryz.prog 8 0 0 := ⟨⟨_, _, Tryz.t2, Tryz.underlying8, rfl, rfl, by kernel_rfl, by decide⟩⟩
instance : FTy Tryz.prog 8 0 0 false 1 := ⟨⟨_, _, 2, Tryz.underlying8, rfl, rfl, by kernel_rfl, inferInstance⟩⟩
instance : FOff Tryz.prog 8 1 1 := ⟨⟨_, _, Tryz.t3, Tryz.underlying8, rfl, rfl, by kernel_rfl, by decide⟩⟩
instance : FTy Tryz.prog 8 1 1 false 1 := ⟨⟨_, _, 3, Tryz.underlying8, rfl, rfl, by kernel_rfl, inferInstance⟩⟩
instance : FOff Tryz.prog 8 2 2 := ⟨⟨_, _, Tryz.t4, Tryz.underlying8, rfl, rfl, by kernel_rfl, by decide⟩⟩
instance : FTy Tryz.prog 8 2 2 false 1 := ⟨⟨_, _, 4, Tryz.underlying8, rfl, rfl, by kernel_rfl, inferInstance⟩⟩
instance : FOff Tryz.prog 8 3 3 := ⟨⟨_, _, Tryz.t6, Tryz.underlying8, rfl, rfl, by kernel_rfl, by decide⟩⟩
instance : FTy Tryz.prog 8 3 3 false 1 := ⟨⟨_, _, 6, Tryz.underlying8, rfl, rfl, by kernel_rfl, inferInstance⟩⟩
instance : StructT Tryz.prog 8 := ⟨⟨_, Tryz.underlying8, by kernel_rfl⟩⟩
instance : HasT Tryz.prog 8 := ⟨⟨_, Tryz.underlying8⟩⟩
instance : ElT Tryz.prog 8 4 := ⟨⟨Tryz.t8, (.agg [.int .i64 0, .int .i64 0, .bool false, .int .u8 0].toArray : Value), by kernel_rfl, by kernel_rfl, by kernel_rfl, by kernel_rfl, by decide, by decide⟩⟩
instance : ZeroT Tryz.prog 8 (.agg [.int .i64 0, .int .i64 0, .bool false, .int .u8 0].toArray) := ⟨⟨Tryz.t8, by kernel_rfl, by kernel_rfl⟩⟩
instance : TySz Tryz.prog 9 false 1 := ⟨⟨Tryz.t9, _, by kernel_rfl, by kernel_rfl, Tryz.underlying9, by kernel_rfl⟩⟩
instance : StrT Tryz.prog 9 := ⟨Tryz.underlying9⟩
instance : HasT Tryz.prog 9 := ⟨⟨_, Tryz.underlying9⟩⟩
instance : ElT Tryz.prog 9 1 := ⟨⟨Tryz.t9, (.string ByteArray.empty : Value), by kernel_rfl, by kernel_rfl, by kernel_rfl, by kernel_rfl, by decide, by decide⟩⟩
instance : ZeroT Tryz.prog 9 (.string ByteArray.empty) := ⟨⟨Tryz.t9, by kernel_rfl, by kernel_rfl⟩⟩
instance : TySz Tryz.prog 10 false 1 := ⟨⟨Tryz.t10, _, by kernel_rfl, by kernel_rfl, Tryz.underlying10, by kernel_rfl⟩⟩
instance : StrT Tryz.prog 10 := ⟨Tryz.underlying10⟩
instance : HasT Tryz.prog 10 := ⟨⟨_, Tryz.underlying10⟩⟩
instance : ElT Tryz.prog 10 1 := ⟨⟨Tryz.t10, (.string ByteArray.empty : Value), by kernel_rfl, by kernel_rfl, by kernel_rfl, by kernel_rfl, by decide, by decide⟩⟩
instance : ZeroT Tryz.prog 10 (.string ByteArray.empty) := ⟨⟨Tryz.t10, by kernel_rfl, by kernel_rfl⟩⟩
instance : TySz Tryz.prog 11 false 1 := ⟨⟨Tryz.t11, _, by kernel_rfl, by kernel_rfl, Tryz.underlying11, by kernel_rfl⟩⟩
instance : StrT Tryz.prog 11 := ⟨Tryz.underlying11⟩
instance : HasT Tryz.prog 11 := ⟨⟨_, Tryz.underlying11⟩⟩
instance : ElT Tryz.prog 11 1 := ⟨⟨Tryz.t11, (.string ByteArray.empty : Value), by kernel_rfl, by kernel_rfl, by kernel_rfl, by kernel_rfl, by decide, by decide⟩⟩
instance : ZeroT Tryz.prog 11 (.string ByteArray.empty) := ⟨⟨Tryz.t11, by kernel_rfl, by kernel_rfl⟩⟩
instance : TySz Tryz.prog 12 false 1 := ⟨⟨Tryz.t12, _, by kernel_rfl, by kernel_rfl, Tryz.underlying12, by kernel_rfl⟩⟩
instance : IntT Tryz.prog 12 .u64 := ⟨Tryz.underlying12⟩
instance : HasT Tryz.prog 12 := ⟨⟨_, Tryz.underlying12⟩⟩
instance : ElT Tryz.prog 12 1 := ⟨⟨Tryz.t12, (.int .u64 0 : Value), by kernel_rfl, by kernel_rfl, by kernel_rfl, by kernel_rfl, by decide, by decide⟩⟩
instance : ZeroT Tryz.prog 12 (.int .u64 0) := ⟨⟨Tryz.t12, by kernel_rfl, by kernel_rfl⟩⟩
instance : TySz Tryz.prog 13 true 2 := ⟨⟨Tryz.t13, _, by kernel_rfl, by kernel_rfl, Tryz.underlying13, by kernel_rfl⟩⟩
instance : FOff Tryz.prog 13 0 0 := ⟨⟨_, _, Tryz.t9, Tryz.underlying13, rfl, rfl, by kernel_rfl, by decide⟩⟩
instance : FTy Tryz.prog 13 0 0 false 1 := ⟨⟨_, _, 9, Tryz.underlying13, rfl, rfl, by kernel_rfl, inferInstance⟩⟩
instance : FOff Tryz.prog 13 1 1 := ⟨⟨_, _, Tryz.t12, Tryz.underlying13, rfl, rfl, by kernel_rfl, by decide⟩⟩
instance : FTy Tryz.prog 13 1 1 false 1 := ⟨⟨_, _, 12, Tryz.underlying13, rfl, rfl, by kernel_rfl, inferInstance⟩⟩
instance : StructT Tryz.prog 13 := ⟨⟨_, Tryz.underlying13, by kernel_rfl⟩⟩
instance : HasT Tryz.prog 13 := ⟨⟨_, Tryz.underlying13⟩⟩
instance : ElT Tryz.prog 13 2 := ⟨⟨Tryz.t13, (.agg [.string ByteArray.empty, .int .u64 0].toArray : Value), by kernel_rfl, by kernel_rfl, by kernel_rfl, by kernel_rfl, by decide, by decide⟩⟩
instance : ZeroT Tryz.prog 13 (.agg [.string ByteArray.empty, .int .u64 0].toArray) := ⟨⟨Tryz.t13, by kernel_rfl, by kernel_rfl⟩⟩
instance : TySz Tryz.prog 14 true 2 := ⟨⟨Tryz.t14, _, by kernel_rfl, by kernel_rfl, Tryz.underlying14, by kernel_rfl⟩⟩
instance : FOff Tryz.prog 14 0 0 := ⟨⟨_, _, Tryz.t9, Tryz.underlying14, rfl, rfl, by kernel_rfl, by decide⟩⟩
instance : FTy Tryz.prog 14 0 0 false 1 := ⟨⟨_, _, 9, Tryz.underlying14, rfl, rfl, by kernel_rfl, inferInstance⟩⟩
instance : FOff Tryz.prog 14 1 1 := ⟨⟨_, _, Tryz.t12, Tryz.underlying14, rfl, rfl, by kernel_rfl, by decide⟩⟩
instance : FTy Tryz.prog 14 1 1 false 1 := ⟨⟨_, _, 12, Tryz.underlying14, rfl, rfl, by kernel_rfl, inferInstance⟩⟩
instance : StructT Tryz.prog 14 := ⟨⟨_, Tryz.underlying14, by kernel_rfl⟩⟩
instance : HasT Tryz.prog 14 := ⟨⟨_, Tryz.underlying14⟩⟩
instance : ElT Tryz.prog 14 2 := ⟨⟨Tryz.t14, (.agg [.string ByteArray.empty, .int .u64 0].toArray : Value), by kernel_rfl, by kernel_rfl, by kernel_rfl, by kernel_rfl, by decide, by decide⟩⟩
instance : ZeroT Tryz.prog 14 (.agg [.string ByteArray.empty, .int .u64 0].toArray) := ⟨⟨Tryz.t14, by kernel_rfl, by kernel_rfl⟩⟩
instance : TySz Tryz.prog 15 false 1 := ⟨⟨Tryz.t15, _, by kernel_rfl, by kernel_rfl, Tryz.underlying15, by kernel_rfl⟩⟩
instance : PtrT Tryz.prog 15 := ⟨⟨_, Tryz.t199, Tryz.underlying15, by kernel_rfl, by decide⟩⟩
instance : HasT Tryz.prog 15 := ⟨⟨_, Tryz.underlying15⟩⟩
instance : ElT Tryz.prog 15 1 := ⟨⟨Tryz.t15, (.pointer none : Value), by kernel_rfl, by kernel_rfl, by kernel_rfl, by kernel_rfl, by decide, by decide⟩⟩
instance : ZeroT Tryz.prog 15 (.pointer none) := ⟨⟨Tryz.t15, by kernel_rfl, by kernel_rfl⟩⟩
instance : TySz Tryz.prog 16 false 1 := ⟨⟨Tryz.t16, _, by kernel_rfl, by kernel_rfl, Tryz.underlying16, by kernel_rfl⟩⟩
instance : HasT Tryz.prog 16 := ⟨⟨_, Tryz.underlying16⟩⟩
instance : ElT Tryz.prog 16 1 := ⟨⟨Tryz.t16, (.pointer none : Value), by kernel_rfl, by kernel_rfl, by kernel_rfl, by kernel_rfl, by decide, by decide⟩⟩
instance : ZeroT Tryz.prog 16 (.pointer none) := ⟨⟨Tryz.t16, by kernel_rfl, by kernel_rfl⟩⟩
instance : TySz Tryz.prog 17 false 1 := ⟨⟨Tryz.t17, _, by kernel_rfl, by kernel_rfl, Tryz.underlying17, by kernel_rfl⟩⟩
instance : PtrT Tryz.prog 17 := ⟨⟨_, Tryz.t210, Tryz.underlying17, by kernel_rfl, by decide⟩⟩
instance : HasT Tryz.prog 17 := ⟨⟨_, Tryz.underlying17⟩⟩
instance : ElT Tryz.prog 17 1 := ⟨⟨Tryz.t17, (.pointer none : Value), by kernel_rfl, by kernel_rfl, by kernel_rfl, by kernel_rfl, by decide, by decide⟩⟩
instance : ZeroT Tryz.prog 17 (.pointer none) := ⟨⟨Tryz.t17, by kernel_rfl, by kernel_rfl⟩⟩
instance : TySz Tryz.prog 18 true 1 := ⟨⟨Tryz.t18, _, by kernel_rfl, by kernel_rfl, Tryz.underlying18, by kernel_rfl⟩⟩
instance : FOff Tryz.prog 18 0 0 := ⟨⟨_, _, Tryz.t17, Tryz.underlying18, rfl, rfl, by kernel_rfl, by decide⟩⟩
instance : FTy Tryz.prog 18 0 0 false 1 := ⟨⟨_, _, 17, Tryz.underlying18, rfl, rfl, by kernel_rfl, inferInstance⟩⟩
instance : StructT Tryz.prog 18 := ⟨⟨_, Tryz.underlying18, by kernel_rfl⟩⟩
instance : HasT Tryz.prog 18 := ⟨⟨_, Tryz.underlying18⟩⟩
instance : ElT Tryz.prog 18 1 := ⟨⟨Tryz.t18, (.agg [.pointer none].toArray : Value), by kernel_rfl, by kernel_rfl, by kernel_rfl, by kernel_rfl, by decide, by decide⟩⟩
instance : ZeroT Tryz.prog 18 (.agg [.pointer none].toArray) := ⟨⟨Tryz.t18, by kernel_rfl, by kernel_rfl⟩⟩
instance : TySz Tryz.prog 19 true 1 := ⟨⟨Tryz.t19, _, by kernel_rfl, by kernel_rfl, Tryz.underlying19, by kernel_rfl⟩⟩
instance : FOff Tryz.prog 19 0 0 := ⟨⟨_, _, Tryz.t17, Tryz.underlying19, rfl, rfl, by kernel_rfl, by decide⟩⟩
instance : FTy Tryz.prog 19 0 0 false 1 := ⟨⟨_, _, 17, Tryz.underlying19, rfl, rfl, by kernel_rfl, inferInstance⟩⟩
instance : StructT Tryz.prog 19 := ⟨⟨_, Tryz.underlying19, by kernel_rfl⟩⟩
instance : HasT Tryz.prog 19 := ⟨⟨_, Tryz.underlying19⟩⟩
instance : ElT Tryz.prog 19 1 := ⟨⟨Tryz.t19, (.agg [.pointer none].toArray : Value), by kernel_rfl, by kernel_rfl, by kernel_rfl, by kernel_rfl, by decide, by decide⟩⟩
instance : ZeroT Tryz.prog 19 (.agg [.pointer none].toArray) := ⟨⟨Tryz.t19, by kernel_rfl, by kernel_rfl⟩⟩
instance : TySz Tryz.prog 20 false 1 := ⟨⟨Tryz.t20, _, by kernel_rfl, by kernel_rfl, Tryz.underlying20, by kernel_rfl⟩⟩
instance : HasT Tryz.prog 20 := ⟨⟨_, Tryz.underlying20⟩⟩
instance : ElT Tryz.prog 20 1 := ⟨⟨Tryz.t20, (.nilIface : Value), by kernel_rfl, by kernel_rfl, by kernel_rfl, by kernel_rfl, by decide, by decide⟩⟩
instance : ZeroT Tryz.prog 20 (.nilIface) := ⟨⟨Tryz.t20, by kernel_rfl, by kernel_rfl⟩⟩
instance : TySz Tryz.prog 21 false 1 := ⟨⟨Tryz.t21, _, by kernel_rfl, by kernel_rfl, Tryz.underlying21, by kernel_rfl⟩⟩
instance : IntT Tryz.prog 21 .i32 := ⟨Tryz.underlying21⟩
instance : HasT Tryz.prog 21 := ⟨⟨_, Tryz.underlying21⟩⟩
instance : ElT Tryz.prog 21 1 := ⟨⟨Tryz.t21, (.int .i32 0 : Value), by kernel_rfl, by kernel_rfl, by kernel_rfl, by kernel_rfl, by decide, by decide⟩⟩
instance : ZeroT Tryz.prog 21 (.int .i32 0) := ⟨⟨Tryz.t21, by kernel_rfl, by kernel_rfl⟩⟩
instance : TySz Tryz.prog 22 false 1 := ⟨⟨Tryz.t22, _, by kernel_rfl, by kernel_rfl, Tryz.underlying22, by kernel_rfl⟩⟩
instance : SliT Tryz.prog 22 66 := ⟨Tryz.underlying22⟩
instance : HasT Tryz.prog 22 := ⟨⟨_, Tryz.underlying22⟩⟩
instance : ElT Tryz.prog 22 1 := ⟨⟨Tryz.t22, (.slice none 0 0 : Value), by kernel_rfl, by kernel_rfl, by kernel_rfl, by kernel_rfl, by decide, by decide⟩⟩
instance : ZeroT Tryz.prog 22 (.slice none 0 0) := ⟨⟨Tryz.t22, by kernel_rfl, by kernel_rfl⟩⟩
instance : TySz Tryz.prog 23 false 1 := ⟨⟨Tryz.t23, _, by kernel_rfl, by kernel_rfl, Tryz.underlying23, by kernel_rfl⟩⟩
instance : SliT Tryz.prog 23 9 := ⟨Tryz.underlying23⟩
instance : HasT Tryz.prog 23 := ⟨⟨_, Tryz.underlying23⟩⟩
instance : ElT Tryz.prog 23 1 := ⟨⟨Tryz.t23, (.slice none 0 0 : Value), by kernel_rfl, by kernel_rfl, by kernel_rfl, by kernel_rfl, by decide, by decide⟩⟩
instance : ZeroT Tryz.prog 23 (.slice none 0 0) := ⟨⟨Tryz.t23, by kernel_rfl, by kernel_rfl⟩⟩
instance : TySz Tryz.prog 24 true 4 := ⟨⟨Tryz.t24, _, by kernel_rfl, by kernel_rfl, Tryz.underlying24, by kernel_rfl⟩⟩
instance : FOff Tryz.prog 24 0 0 := ⟨⟨_, _, Tryz.t22, Tryz.underlying24, rfl, rfl, by kernel_rfl, by decide⟩⟩
instance : FTy Tryz.prog 24 0 0 false 1 := ⟨⟨_, _, 22, Tryz.underlying24, rfl, rfl, by kernel_rfl, inferInstance⟩⟩
instance : FOff Tryz.prog 24 1 1 := ⟨⟨_, _, Tryz.t23, Tryz.underlying24, rfl, rfl, by kernel_rfl, by decide⟩⟩
instance : FTy Tryz.prog 24 1 1 false 1 := ⟨⟨_, _, 23, Tryz.underlying24, rfl, rfl, by kernel_rfl, inferInstance⟩⟩
instance : FOff Tryz.prog 24 2 2 := ⟨⟨_, _, Tryz.t3, Tryz.underlying24, rfl, rfl, by kernel_rfl, by decide⟩⟩
instance : FTy Tryz.prog 24 2 2 false 1 := ⟨⟨_, _, 3, Tryz.underlying24, rfl, rfl, by kernel_rfl, inferInstance⟩⟩
instance : FOff Tryz.prog 24 3 3 := ⟨⟨_, _, Tryz.t3, Tryz.underlying24, rfl, rfl, by kernel_rfl, by decide⟩⟩
instance : FTy Tryz.prog 24 3 3 false 1 := ⟨⟨_, _, 3, Tryz.underlying24, rfl, rfl, by kernel_rfl, inferInstance⟩⟩
instance : StructT Tryz.prog 24 := ⟨⟨_, Tryz.underlying24, by kernel_rfl⟩⟩
instance : HasT Tryz.prog 24 := ⟨⟨_, Tryz.underlying24⟩⟩
instance : ElT Tryz.prog 24 4 := ⟨⟨Tryz.t24, (.agg [.slice none 0 0, .slice none 0 0, .int .i64 0, .int .i64 0].toArray : Value), by kernel_rfl, by kernel_rfl, by kernel_rfl, by kernel_rfl, by decide, by decide⟩⟩
instance : ZeroT Tryz.prog 24 (.agg [.slice none 0 0, .slice none 0 0, .int .i64 0, .int .i64 0].toArray) := ⟨⟨Tryz.t24, by kernel_rfl, by kernel_rfl⟩⟩
instance : TySz Tryz.prog 25 true 4 := ⟨⟨Tryz.t25, _, by kernel_rfl, by kernel_rfl, Tryz.underlying25, by kernel_rfl⟩⟩
instance : FOff Tryz.prog 25 0 0 := ⟨⟨_, _, Tryz.t22, Tryz.underlying25, rfl, rfl, by kernel_rfl, by decide⟩⟩
instance : FTy Tryz.prog 25 0 0 false 1 := ⟨⟨_, _, 22, Tryz.underlying25, rfl, rfl, by kernel_rfl, inferInstance⟩⟩
instance : FOff Tryz.prog 25 1 1 := ⟨⟨_, _, Tryz.t23, Tryz.underlying25, rfl, rfl, by kernel_rfl, by decide⟩⟩
instance : FTy Tryz.prog 25 1 1 false 1 := ⟨⟨_, _, 23, Tryz.underlying25, rfl, rfl, by kernel_rfl, inferInstance⟩⟩
instance : FOff Tryz.prog 25 2 2 := ⟨⟨_, _, Tryz.t3, Tryz.underlying25, rfl, rfl, by kernel_rfl, by decide⟩⟩
instance : FTy Tryz.prog 25 2 2 false 1 := ⟨⟨_, _, 3, Tryz.underlying25, rfl, rfl, by kernel_rfl, inferInstance⟩⟩
instance : FOff Tryz.prog 25 3 3 := ⟨⟨_, _, Tryz.t3, Tryz.underlying25, rfl, rfl, by kernel_rfl, by decide⟩⟩
instance : FTy Tryz.prog 25 3 3 false 1 := ⟨⟨_, _, 3, Tryz.underlying25, rfl, rfl, by kernel_rfl, inferInstance⟩⟩
instance : FieldsL Tryz.prog 25 [(22, 0, 1), (23, 1, 1), (3, 2, 1), (3, 3, 1)] 4 := ⟨⟨_, Tryz.underlying25, by kernel_rfl, by kernel_rfl⟩⟩
instance : StructT Tryz.prog 25 := ⟨⟨_, Tryz.underlying25, by kernel_rfl⟩⟩
instance : HasT Tryz.prog 25 := ⟨⟨_, Tryz.underlying25⟩⟩
instance : ElT Tryz.prog 25 4 := ⟨⟨Tryz.t25, (.agg [.slice none 0 0, .slice none 0 0, .int .i64 0, .int .i64 0].toArray : Value), by kernel_rfl, by kernel_rfl, by kernel_rfl, by kernel_rfl, by decide, by decide⟩⟩
instance : ZeroT Tryz.prog 25 (.agg [.slice none 0 0, .slice none 0 0, .int .i64 0, .int .i64 0].toArray) := ⟨⟨Tryz.t25, by kernel_rfl, by kernel_rfl⟩⟩
instance : TySz Tryz.prog 26 false 1 := ⟨⟨Tryz.t26, _, by kernel_rfl, by kernel_rfl, Tryz.underlying26, by kernel_rfl⟩⟩
instance : SliT Tryz.prog 26 36 := ⟨Tryz.underlying26⟩
instance : HasT Tryz.prog 26 := ⟨⟨_, Tryz.underlying26⟩⟩
instance : ElT Tryz.prog 26 1 := ⟨⟨Tryz.t26, (.slice none 0 0 : Value), by kernel_rfl, by kernel_rfl, by kernel_rfl, by kernel_rfl, by decide, by decide⟩⟩
instance : ZeroT Tryz.prog 26 (.slice none 0 0) := ⟨⟨Tryz.t26, by kernel_rfl, by kernel_rfl⟩⟩
instance : TySz Tryz.prog 27 false 1 := ⟨⟨Tryz.t27, _, by kernel_rfl, by kernel_rfl, Tryz.underlying27, by kernel_rfl⟩⟩
instance : SliT Tryz.prog 27 49 := ⟨Tryz.underlying27⟩
instance : HasT Tryz.prog 27 := ⟨⟨_, Tryz.underlying27⟩⟩
instance : ElT Tryz.prog 27 1 := ⟨⟨Tryz.t27, (.slice none 0 0 : Value), by kernel_rfl, by kernel_rfl, by kernel_rfl, by kernel_rfl, by decide, by decide⟩⟩
instance : ZeroT Tryz.prog 27 (.slice none 0 0) := ⟨⟨Tryz.t27, by kernel_rfl, by kernel_rfl⟩⟩
instance : TySz Tryz.prog 28 false 1 := ⟨⟨Tryz.t28, _, by kernel_rfl, by kernel_rfl, Tryz.underlying28, by kernel_rfl⟩⟩
instance : PtrT Tryz.prog 28 := ⟨⟨_, Tryz.t87, Tryz.underlying28, by kernel_rfl, by decide⟩⟩
instance : HasT Tryz.prog 28 := ⟨⟨_, Tryz.underlying28⟩⟩
instance : ElT Tryz.prog 28 1 := ⟨⟨Tryz.t28, (.pointer none : Value), by kernel_rfl, by kernel_rfl, by kernel_rfl, by kernel_rfl, by decide, by decide⟩⟩
instance : ZeroT Tryz.prog 28 (.pointer none) := ⟨⟨Tryz.t28, by kernel_rfl, by kernel_rfl⟩⟩
instance : TySz Tryz.prog 29 false 1 := ⟨⟨Tryz.t29, _, by kernel_rfl, by kernel_rfl, Tryz.underlying29, by kernel_rfl⟩⟩
instance : PtrT Tryz.prog 29 := ⟨⟨_, Tryz.t41, Tryz.underlying29, by kernel_rfl, by decide⟩⟩
instance : HasT Tryz.prog 29 := ⟨⟨_, Tryz.underlying29⟩⟩
instance : ElT Tryz.prog 29 1 := ⟨⟨Tryz.t29, (.pointer none : Value), by kernel_rfl, by kernel_rfl, by kernel_rfl, by kernel_rfl, by decide, by decide⟩⟩
instance : ZeroT Tryz.prog 29 (.pointer none) := ⟨⟨Tryz.t29, by kernel_rfl, by kernel_rfl⟩⟩
instance : TySz Tryz.prog 31 false 1 := ⟨⟨Tryz.t31, _, by kernel_rfl, by kernel_rfl, Tryz.underlying31, by kernel_rfl⟩⟩
instance : HasT Tryz.prog 31 := ⟨⟨_, Tryz.underlying31⟩⟩
instance : ElT Tryz.prog 31 1 := ⟨⟨Tryz.t31, (.nilFunc : Value), by kernel_rfl, by kernel_rfl, by kernel_rfl, by kernel_rfl, by decide, by decide⟩⟩
instance : ZeroT Tryz.prog 31 (.nilFunc) := ⟨⟨Tryz.t31, by kernel_rfl, by kernel_rfl⟩⟩
instance : TySz Tryz.prog 32 false 1 := ⟨⟨Tryz.t32, _, by kernel_rfl, by kernel_rfl, Tryz.underlying32, by kernel_rfl⟩⟩
instance : HasT Tryz.prog 32 := ⟨⟨_, Tryz.underlying32⟩⟩
instance : ElT Tryz.prog 32 1 := ⟨⟨Tryz.t32, (.nilFunc : Value), by kernel_rfl, by kernel_rfl, by kernel_rfl, by kernel_rfl, by decide, by decide⟩⟩
instance : ZeroT Tryz.prog 32 (.nilFunc) := ⟨⟨Tryz.t32, by kernel_rfl, by kernel_rfl⟩⟩
instance : TySz Tryz.prog 33 false 1 := ⟨⟨Tryz.t33, _, by kernel_rfl, by kernel_rfl, Tryz.underlying33, by kernel_rfl⟩⟩
instance : IntT Tryz.prog 33 .i64 := ⟨Tryz.underlying33⟩
instance : HasT Tryz.prog 33 := ⟨⟨_, Tryz.underlying33⟩⟩
instance : ElT Tryz.prog 33 1 := ⟨⟨Tryz.t33, (.int .i64 0 : Value), by kernel_rfl, by kernel_rfl, by kernel_rfl, by kernel_rfl, by decide, by decide⟩⟩
instance : ZeroT Tryz.prog 33 (.int .i64 0) := ⟨⟨Tryz.t33, by kernel_rfl, by kernel_rfl⟩⟩
instance : TySz Tryz.prog 34 false 1 := ⟨⟨Tryz.t34, _, by kernel_rfl, by kernel_rfl, Tryz.underlying34, by kernel_rfl⟩⟩
instance : HasT Tryz.prog 34 := ⟨⟨_, Tryz.underlying34⟩⟩
instance : ElT Tryz.prog 34 1 := ⟨⟨Tryz.t34, (.nilFunc : Value), by kernel_rfl, by kernel_rfl, by kernel_rfl, by kernel_rfl, by decide, by decide⟩⟩
instance : ZeroT Tryz.prog 34 (.nilFunc) := ⟨⟨Tryz.t34, by kernel_rfl, by kernel_rfl⟩⟩
instance : TySz Tryz.prog 35 true 2 := ⟨⟨Tryz.t35, _, by kernel_rfl, by kernel_rfl, Tryz.underlying35, by kernel_rfl⟩⟩
instance : FOff Tryz.prog 35 0 0 := ⟨⟨_, _, Tryz.t3, Tryz.underlying35, rfl, rfl, by kernel_rfl, by decide⟩⟩
instance : FTy Tryz.prog 35 0 0 false 1 := ⟨⟨_, _, 3, Tryz.underlying35, rfl, rfl, by kernel_rfl, inferInstance⟩⟩
instance : FOff Tryz.prog 35 1 1 := ⟨⟨_, _, Tryz.t2, Tryz.underlying35, rfl, rfl, by kernel_rfl, by decide⟩⟩
instance : FTy Tryz.prog 35 1 1 false 1 := ⟨⟨_, _, 2, Tryz.underlying35, rfl, rfl, by kernel_rfl, inferInstance⟩⟩
instance : StructT Tryz.prog 35 := ⟨⟨_, Tryz.underlying35, by kernel_rfl⟩⟩
instance : HasT Tryz.prog 35 := ⟨⟨_, Tryz.underlying35⟩⟩
instance : ElT Tryz.prog 35 2 := ⟨⟨Tryz.t35, (.agg [.int .i64 0, .int .i64 0].toArray : Value), by kernel_rfl, by kernel_rfl, by kernel_rfl, by kernel_rfl, by decide, by decide⟩⟩
instance : ZeroT Tryz.prog 35 (.agg [.int .i64 0, .int .i64 0].toArray) := ⟨⟨Tryz.t35, by kernel_rfl, by kernel_rfl⟩⟩
instance : TySz Tryz.prog 36 true 2 := ⟨⟨Tryz.t36, _, by kernel_rfl, by kernel_rfl, Tryz.underlying36, by kernel_rfl⟩⟩
instance : FOff Tryz.prog 36 0 0 := ⟨⟨_, _, Tryz.t3, Tryz.underlying36, rfl, rfl, by kernel_rfl, by decide⟩⟩
instance : FTy Tryz.prog 36 0 0 false 1 := ⟨⟨_, _, 3, Tryz.underlying36, rfl, rfl, by kernel_rfl, inferInstance⟩⟩
instance : FOff Tryz.prog 36 1 1 := ⟨⟨_, _, Tryz.t2, Tryz.underlying36, rfl, rfl, by kernel_rfl, by decide⟩⟩
instance : FTy Tryz.prog 36 1 1 false 1 := ⟨⟨_, _, 2, Tryz.underlying36, rfl, rfl, by kernel_rfl, inferInstance⟩⟩
instance : FieldsT Tryz.prog 36 [(3, 0), (2, 1)] := ⟨⟨_, Tryz.underlying36, by kernel_rfl, by kernel_rfl, by kernel_rfl, by kernel_rfl⟩⟩
instance : FieldsL Tryz.prog 36 [(3, 0, 1), (2, 1, 1)] 2 := ⟨⟨_, Tryz.underlying36, by kernel_rfl, by kernel_rfl⟩⟩
instance : StructT Tryz.prog 36 := ⟨⟨_, Tryz.underlying36, by kernel_rfl⟩⟩
instance : HasT Tryz.prog 36 := ⟨⟨_, Tryz.underlying36⟩⟩
instance : ElT Tryz.prog 36 2 := ⟨⟨Tryz.t36, (.agg [.int .i64 0, .int .i64 0].toArray : Value), by kernel_rfl, by kernel_rfl, by kernel_rfl, by kernel_rfl, by decide, by decide⟩⟩
instance : ZeroT Tryz.prog 36 (.agg [.int .i64 0, .int .i64 0].toArray) := ⟨⟨Tryz.t36, by kernel_rfl, by kernel_rfl⟩⟩
instance : TySz Tryz.prog 37 false 1 := ⟨⟨Tryz.t37, _, by kernel_rfl, by kernel_rfl, Tryz.underlying37, by kernel_rfl⟩⟩
instance : HasT Tryz.prog 37 := ⟨⟨_, Tryz.underlying37⟩⟩
instance : ElT Tryz.prog 37 1 := ⟨⟨Tryz.t37, (.nilFunc : Value), by kernel_rfl, by kernel_rfl, by kernel_rfl, by kernel_rfl, by decide, by decide⟩⟩
instance : ZeroT Tryz.prog 37 (.nilFunc) := ⟨⟨Tryz.t37, by kernel_rfl, by kernel_rfl⟩⟩
instance : TySz Tryz.prog 38 false 1 := ⟨⟨Tryz.t38, _, by kernel_rfl, by kernel_rfl, Tryz.underlying38, by kernel_rfl⟩⟩
instance : PtrT Tryz.prog 38 := ⟨⟨_, Tryz.t80, Tryz.underlying38, by kernel_rfl, by decide⟩⟩
instance : HasT Tryz.prog 38 := ⟨⟨_, Tryz.underlying38⟩⟩
instance : ElT Tryz.prog 38 1 := ⟨⟨Tryz.t38, (.pointer none : Value), by kernel_rfl, by kernel_rfl, by kernel_rfl, by kernel_rfl, by decide, by decide⟩⟩
instance : ZeroT Tryz.prog 38 (.pointer none) := ⟨⟨Tryz.t38, by kernel_rfl, by kernel_rfl⟩⟩
instance : TySz Tryz.prog 39 false 1 := ⟨⟨Tryz.t39, _, by kernel_rfl, by kernel_rfl, Tryz.underlying39, by kernel_rfl⟩⟩
instance : SliT Tryz.prog 39 45 := ⟨Tryz.underlying39⟩
instance : HasT Tryz.prog 39 := ⟨⟨_, Tryz.underlying39⟩⟩
instance : ElT Tryz.prog 39 1 := ⟨⟨Tryz.t39, (.slice none 0 0 : Value), by kernel_rfl, by kernel_rfl, by kernel_rfl, by kernel_rfl, by decide, by decide⟩⟩
instance : ZeroT Tryz.prog 39 (.slice none 0 0) := ⟨⟨Tryz.t39, by kernel_rfl, by kernel_rfl⟩⟩
instance : TySz Tryz.prog 40 true 2 := ⟨⟨Tryz.t40, _, by kernel_rfl, by kernel_rfl, Tryz.underlying40, by kernel_rfl⟩⟩
instance : FOff Tryz.prog 40 0 0 := ⟨⟨_, _, Tryz.t38, Tryz.underlying40, rfl, rfl, by kernel_rfl, by decide⟩⟩
instance : FTy Tryz.prog 40 0 0 false 1 := ⟨⟨_, _, 38, Tryz.underlying40, rfl, rfl, by kernel_rfl, inferInstance⟩⟩
instance : FOff Tryz.prog 40 1 1 := ⟨⟨_, _, Tryz.t39, Tryz.underlying40, rfl, rfl, by kernel_rfl, by decide⟩⟩
instance : FTy Tryz.prog 40 1 1 false 1 := ⟨⟨_, _, 39, Tryz.underlying40, rfl, rfl, by kernel_rfl, inferInstance⟩⟩
instance : StructT Tryz.prog 40 := ⟨⟨_, Tryz.underlying40, by kernel_rfl⟩⟩
instance : HasT Tryz.prog 40 := ⟨⟨_, Tryz.underlying40⟩⟩
instance : ElT Tryz.prog 40 2 := ⟨⟨Tryz.t40, (.agg [.pointer none, .slice none 0 0].toArray : Value), by kernel_rfl, by kernel_rfl, by kernel_rfl, by kernel_rfl, by decide, by decide⟩⟩
instance : ZeroT Tryz.prog 40 (.agg [.pointer none, .slice none 0 0].toArray) := ⟨⟨Tryz.t40, by kernel_rfl, by kernel_rfl⟩⟩
instance : TySz Tryz.prog 41 true 2 := ⟨⟨Tryz.t41, _, by kernel_rfl, by kernel_rfl, Tryz.underlying41, by kernel_rfl⟩⟩
instance : FOff Tryz.prog 41 0 0 := ⟨⟨_, _, Tryz.t38, Tryz.underlying41, rfl, rfl, by kernel_rfl, by decide⟩⟩
instance : FTy Tryz.prog 41 0 0 false 1 := ⟨⟨_, _, 38, Tryz.underlying41, rfl, rfl, by kernel_rfl, inferInstance⟩⟩
instance : FOff Tryz.prog 41 1 1 := ⟨⟨_, _, Tryz.t39, Tryz.underlying41, rfl, rfl, by kernel_rfl, by decide⟩⟩
instance : FTy Tryz.prog 41 1 1 false 1 := ⟨⟨_, _, 39, Tryz.underlying41, rfl, rfl, by kernel_rfl, inferInstance⟩⟩
instance : FieldsL Tryz.prog 41 [(38, 0, 1), (39, 1, 1)] 2 := ⟨⟨_, Tryz.underlying41, by kernel_rfl, by kernel_rfl⟩⟩
instance : StructT Tryz.prog 41 := ⟨⟨_, Tryz.underlying41, by kernel_rfl⟩⟩
instance : HasT Tryz.prog 41 := ⟨⟨_, Tryz.underlying41⟩⟩
instance : ElT Tryz.prog 41 2 := ⟨⟨Tryz.t41, (.agg [.pointer none, .slice none 0 0].toArray : Value), by kernel_rfl, by kernel_rfl, by kernel_rfl, by kernel_rfl, by decide, by decide⟩⟩
instance : ZeroT Tryz.prog 41 (.agg [.pointer none, .slice none 0 0].toArray) := ⟨⟨Tryz.t41, by kernel_rfl, by kernel_rfl⟩⟩
instance : TySz Tryz.prog 43 false 1 := ⟨⟨Tryz.t43, _, by kernel_rfl, by kernel_rfl, Tryz.underlying43, by kernel_rfl⟩⟩
instance : HasT Tryz.prog 43 := ⟨⟨_, Tryz.underlying43⟩⟩
instance : ElT Tryz.prog 43 1 := ⟨⟨Tryz.t43, (.nilFunc : Value), by kernel_rfl, by kernel_rfl, by kernel_rfl, by kernel_rfl, by decide, by decide⟩⟩
instance : ZeroT Tryz.prog 43 (.nilFunc) := ⟨⟨Tryz.t43, by kernel_rfl, by kernel_rfl⟩⟩
instance : TySz Tryz.prog 44 true 2 := ⟨⟨Tryz.t44, _, by kernel_rfl, by kernel_rfl, Tryz.underlying44, by kernel_rfl⟩⟩
instance : FOff Tryz.prog 44 0 0 := ⟨⟨_, _, Tryz.t2, Tryz.underlying44, rfl, rfl, by kernel_rfl, by decide⟩⟩
instance : FTy Tryz.prog 44 0 0 false 1 := ⟨⟨_, _, 2, Tryz.underlying44, rfl, rfl, by kernel_rfl, inferInstance⟩⟩
instance : FOff Tryz.prog 44 1 1 := ⟨⟨_, _, Tryz.t4, Tryz.underlying44, rfl, rfl, by kernel_rfl, by decide⟩⟩
instance : FTy Tryz.prog 44 1 1 false 1 := ⟨⟨_, _, 4, Tryz.underlying44, rfl, rfl, by kernel_rfl, inferInstance⟩⟩
instance : StructT Tryz.prog 44 := ⟨⟨_, Tryz.underlying44, by kernel_rfl⟩⟩
instance : HasT Tryz.prog 44 := ⟨⟨_, Tryz.underlying44⟩⟩
instance : ElT Tryz.prog 44 2 := ⟨⟨Tryz.t44, (.agg [.int .i64 0, .bool false].toArray : Value), by kernel_rfl, by kernel_rfl, by kernel_rfl, by kernel_rfl, by decide, by decide⟩⟩
instance : ZeroT Tryz.prog 44 (.agg [.int .i64 0, .bool false].toArray) := ⟨⟨Tryz.t44, by kernel_rfl, by kernel_rfl⟩⟩
instance : TySz Tryz.prog 45 true 2 := ⟨⟨Tryz.t45, _, by kernel_rfl, by kernel_rfl, Tryz.underlying45, by kernel_rfl⟩⟩
instance : FOff Tryz.prog 45 0 0 := ⟨⟨_, _, Tryz.t2, Tryz.underlying45, rfl, rfl, by kernel_rfl, by decide⟩⟩
instance : FTy Tryz.prog 45 0 0 false 1 := ⟨⟨_, _, 2, Tryz.underlying45, rfl, rfl, by kernel_rfl, inferInstance⟩⟩
instance : FOff Tryz.prog 45 1 1 := ⟨⟨_, _, Tryz.t4, Tryz.underlying45, rfl, rfl, by kernel_rfl, by decide⟩⟩
instance : FTy Tryz.prog 45 1 1 false 1 := ⟨⟨_, _, 4, Tryz.underlying45, rfl, rfl, by kernel_rfl, inferInstance⟩⟩
instance : FieldsT Tryz.prog 45 [(2, 0), (4, 1)] := ⟨⟨_, Tryz.underlying45, by kernel_rfl, by kernel_rfl, by kernel_rfl, by kernel_rfl⟩⟩
instance : FieldsL Tryz.prog 45 [(2, 0, 1), (4, 1, 1)] 2 := ⟨⟨_, Tryz.underlying45, by kernel_rfl, by kernel_rfl⟩⟩
instance : StructT Tryz.prog 45 := ⟨⟨_, Tryz.underlying45, by kernel_rfl⟩⟩
instance : HasT Tryz.prog 45 := ⟨⟨_, Tryz.underlying45⟩⟩
instance : ElT Tryz.prog 45 2 := ⟨⟨Tryz.t45, (.agg [.int .i64 0, .bool false].toArray : Value), by kernel_rfl, by kernel_rfl, by kernel_rfl, by kernel_rfl, by decide, by decide⟩⟩
instance : ZeroT Tryz.prog 45 (.agg [.int .i64 0, .bool false].toArray) := ⟨⟨Tryz.t45, by kernel_rfl, by kernel_rfl⟩⟩
instance : TySz Tryz.prog 46 false 1 := ⟨⟨Tryz.t46, _, by kernel_rfl, by kernel_rfl, Tryz.underlying46, by kernel_rfl⟩⟩
instance : HasT Tryz.prog 46 := ⟨⟨_, Tryz.underlying46⟩⟩
instance : ElT Tryz.prog 46 1 := ⟨⟨Tryz.t46, (.nilFunc : Value), by kernel_rfl, by kernel_rfl, by kernel_rfl, by kernel_rfl, by decide, by decide⟩⟩
instance : ZeroT Tryz.prog 46 (.nilFunc) := ⟨⟨Tryz.t46, by kernel_rfl, by kernel_rfl⟩⟩
instance : TySz Tryz.prog 47 true 4 := ⟨⟨Tryz.t47, _, by kernel_rfl, by kernel_rfl, Tryz.underlying47, by kernel_rfl⟩⟩
instance : ArrT Tryz.prog 47 4 3 := ⟨Tryz.underlying47⟩
instance : HasT Tryz.prog 47 := ⟨⟨_, Tryz.underlying47⟩⟩
instance : ElT Tryz.prog 47 4 := ⟨⟨Tryz.t47, (.agg [.int .i64 0, .int .i64 0, .int .i64 0, .int .i64 0].toArray : Value), by kernel_rfl, by kernel_rfl, by kernel_rfl, by kernel_rfl, by decide, by decide⟩⟩
instance : ZeroT Tryz.prog 47 (.agg [.int .i64 0, .int .i64 0, .int .i64 0, .int .i64 0].toArray) := ⟨⟨Tryz.t47, by kernel_rfl, by kernel_rfl⟩⟩
instance : TySz Tryz.prog 48 true 5 := ⟨⟨Tryz.t48, _, by kernel_rfl, by kernel_rfl, Tryz.underlying48, by kernel_rfl⟩⟩
instance : FOff Tryz.prog 48 0 0 := ⟨⟨_, _, Tryz.t3, Tryz.underlying48, rfl, rfl, by kernel_rfl, by decide⟩⟩
instance : FTy Tryz.prog 48 0 0 false 1 := ⟨⟨_, _, 3, Tryz.underlying48, rfl, rfl, by kernel_rfl, inferInstance⟩⟩
instance : FOff Tryz.prog 48 1 1 := ⟨⟨_, _, Tryz.t47, Tryz.underlying48, rfl, rfl, by kernel_rfl, by decide⟩⟩
instance : FTy Tryz.prog 48 1 1 true 4 := ⟨⟨_, _, 47, Tryz.underlying48, rfl, rfl, by kernel_rfl, inferInstance⟩⟩
instance : StructT Tryz.prog 48 := ⟨⟨_, Tryz.underlying48, by kernel_rfl⟩⟩
instance : HasT Tryz.prog 48 := ⟨⟨_, Tryz.underlying48⟩⟩
instance : ElT Tryz.prog 48 5 := ⟨⟨Tryz.t48, (.agg [.int .i64 0, .int .i64 0, .int .i64 0, .int .i64 0, .int .i64 0].toArray : Value), by kernel_rfl, by kernel_rfl, by kernel_rfl, by kernel_rfl, by decide, by decide⟩⟩
instance : ZeroT Tryz.prog 48 (.agg [.int .i64 0, .int .i64 0, .int .i64 0, .int .i64 0, .int .i64 0].toArray) := ⟨⟨Tryz.t48, by kernel_rfl, by kernel_rfl⟩⟩
instance : TySz Tryz.prog 49 true 5 := ⟨⟨Tryz.t49, _, by kernel_rfl, by kernel_rfl, Tryz.underlying49, by kernel_rfl⟩⟩
instance : FOff Tryz.prog 49 0 0 := ⟨⟨_, _, Tryz.t3, Tryz.underlying49, rfl, rfl, by kernel_rfl, by decide⟩⟩
instance : FTy Tryz.prog 49 0 0 false 1 := ⟨⟨_, _, 3, Tryz.underlying49, rfl, rfl, by kernel_rfl, inferInstance⟩⟩
instance : FOff Tryz.prog 49 1 1 := ⟨⟨_, _, Tryz.t47, Tryz.underlying49, rfl, rfl, by kernel_rfl, by decide⟩⟩
instance : FTy Tryz.prog 49 1 1 true 4 := ⟨⟨_, _, 47, Tryz.underlying49, rfl, rfl, by kernel_rfl, inferInstance⟩⟩
instance : FieldsT Tryz.prog 49 [(3, 0), (47, 1)] := ⟨⟨_, Tryz.underlying49, by kernel_rfl, by kernel_rfl, by kernel_rfl, by kernel_rfl⟩⟩
instance : FieldsL Tryz.prog 49 [(3, 0, 1), (47, 1, 4)] 5 := ⟨⟨_, Tryz.underlying49, by kernel_rfl, by kernel_rfl⟩⟩
instance : StructT Tryz.prog 49 := ⟨⟨_, Tryz.underlying49, by kernel_rfl⟩⟩
instance : HasT Tryz.prog 49 := ⟨⟨_, Tryz.underlying49⟩⟩
instance : ElT Tryz.prog 49 5 := ⟨⟨Tryz.t49, (.agg [.int .i64 0, .int .i64 0, .int .i64 0, .int .i64 0, .int .i64 0].toArray : Value), by kernel_rfl, by kernel_rfl, by kernel_rfl, by kernel_rfl, by decide, by decide⟩⟩
instance : ZeroT Tryz.prog 49 (.agg [.int .i64 0, .int .i64 0, .int .i64 0, .int .i64 0, .int .i64 0].toArray) := ⟨⟨Tryz.t49, by kernel_rfl, by kernel_rfl⟩⟩
instance : TySz Tryz.prog 50 false 1 := ⟨⟨Tryz.t50, _, by kernel_rfl, by kernel_rfl, Tryz.underlying50, by kernel_rfl⟩⟩
instance : HasT Tryz.prog 50 := ⟨⟨_, Tryz.underlying50⟩⟩
instance : ElT Tryz.prog 50 1 := ⟨⟨Tryz.t50, (.nilFunc : Value), by kernel_rfl, by kernel_rfl, by kernel_rfl, by kernel_rfl, by decide, by decide⟩⟩
instance : ZeroT Tryz.prog 50 (.nilFunc) := ⟨⟨Tryz.t50, by kernel_rfl, by kernel_rfl⟩⟩
instance : TySz Tryz.prog 52 false 1 := ⟨⟨Tryz.t52, _, by kernel_rfl, by kernel_rfl, Tryz.underlying52, by kernel_rfl⟩⟩
instance : HasT Tryz.prog 52 := ⟨⟨_, Tryz.underlying52⟩⟩
instance : ElT Tryz.prog 52 1 := ⟨⟨Tryz.t52, (.nilFunc : Value), by kernel_rfl, by kernel_rfl, by kernel_rfl, by kernel_rfl, by decide, by decide⟩⟩
instance : ZeroT Tryz.prog 52 (.nilFunc) := ⟨⟨Tryz.t52, by kernel_rfl, by kernel_rfl⟩⟩
instance : TySz Tryz.prog 53 false 1 := ⟨⟨Tryz.t53, _, by kernel_rfl, by kernel_rfl, Tryz.underlying53, by kernel_rfl⟩⟩
instance : HasT Tryz.prog 53 := ⟨⟨_, Tryz.underlying53⟩⟩
instance : ElT Tryz.prog 53 1 := ⟨⟨Tryz.t53, (.nilFunc : Value), by kernel_rfl, by kernel_rfl, by kernel_rfl, by kernel_rfl, by decide, by decide⟩⟩
instance : ZeroT Tryz.prog 53 (.nilFunc) := ⟨⟨Tryz.t53, by kernel_rfl, by kernel_rfl⟩⟩
instance : TySz Tryz.prog 54 false 1 := ⟨⟨Tryz.t54, _, by kernel_rfl, by kernel_rfl, Tryz.underlying54, by kernel_rfl⟩⟩
instance : HasT Tryz.prog 54 := ⟨⟨_, Tryz.underlying54⟩⟩
instance : ElT Tryz.prog 54 1 := ⟨⟨Tryz.t54, (.nilFunc : Value), by kernel_rfl, by kernel_rfl, by kernel_rfl, by kernel_rfl, by decide, by decide⟩⟩
instance : ZeroT Tryz.prog 54 (.nilFunc) := ⟨⟨Tryz.t54, by kernel_rfl, by kernel_rfl⟩⟩
instance : TySz Tryz.prog 55 false 1 := ⟨⟨Tryz.t55, _, by kernel_rfl, by kernel_rfl, Tryz.underlying55, by kernel_rfl⟩⟩
instance : HasT Tryz.prog 55 := ⟨⟨_, Tryz.underlying55⟩⟩
instance : ElT Tryz.prog 55 1 := ⟨⟨Tryz.t55, (.nilFunc : Value), by kernel_rfl, by kernel_rfl, by kernel_rfl, by kernel_rfl, by decide, by decide⟩⟩
instance : ZeroT Tryz.prog 55 (.nilFunc) := ⟨⟨Tryz.t55, by kernel_rfl, by kernel_rfl⟩⟩
instance : TySz Tryz.prog 56 false 1 := ⟨⟨Tryz.t56, _, by kernel_rfl, by kernel_rfl, Tryz.underlying56, by kernel_rfl⟩⟩
instance : HasT Tryz.prog 56 := ⟨⟨_, Tryz.underlying56⟩⟩
instance : ElT Tryz.prog 56 1 := ⟨⟨Tryz.t56, (.nilFunc : Value), by kernel_rfl, by kernel_rfl, by kernel_rfl, by kernel_rfl, by decide, by decide⟩⟩
instance : ZeroT Tryz.prog 56 (.nilFunc) := ⟨⟨Tryz.t56, by kernel_rfl, by kernel_rfl⟩⟩
instance : TySz Tryz.prog 57 false 1 := ⟨⟨Tryz.t57, _, by kernel_rfl, by kernel_rfl, Tryz.underlying57, by kernel_rfl⟩⟩
instance : HasT Tryz.prog 57 := ⟨⟨_, Tryz.underlying57⟩⟩
instance : ElT Tryz.prog 57 1 := ⟨⟨Tryz.t57, (.nilFunc : Value), by kernel_rfl, by kernel_rfl, by kernel_rfl, by kernel_rfl, by decide, by decide⟩⟩
instance : ZeroT Tryz.prog 57 (.nilFunc) := ⟨⟨Tryz.t57, by kernel_rfl, by kernel_rfl⟩⟩
instance : TySz Tryz.prog 58 false 1 := ⟨⟨Tryz.t58, _, by kernel_rfl, by kernel_rfl, Tryz.underlying58, by kernel_rfl⟩⟩
instance : HasT Tryz.prog 58 := ⟨⟨_, Tryz.underlying58⟩⟩
instance : ElT Tryz.prog 58 1 := ⟨⟨Tryz.t58, (.nilFunc : Value), by kernel_rfl, by kernel_rfl, by kernel_rfl, by kernel_rfl, by decide, by decide⟩⟩
instance : ZeroT Tryz.prog 58 (.nilFunc) := ⟨⟨Tryz.t58, by kernel_rfl, by kernel_rfl⟩⟩
instance : TySz Tryz.prog 60 false 1 := ⟨⟨Tryz.t60, _, by kernel_rfl, by kernel_rfl, Tryz.underlying60, by kernel_rfl⟩⟩
instance : HasT Tryz.prog 60 := ⟨⟨_, Tryz.underlying60⟩⟩
instance : ElT Tryz.prog 60 1 := ⟨⟨Tryz.t60, (.nilFunc : Value), by kernel_rfl, by kernel_rfl, by kernel_rfl, by kernel_rfl, by decide, by decide⟩⟩
instance : ZeroT Tryz.prog 60 (.nilFunc) := ⟨⟨Tryz.t60, by kernel_rfl, by kernel_rfl⟩⟩
instance : TySz Tryz.prog 61 false 1 := ⟨⟨Tryz.t61, _, by kernel_rfl, by kernel_rfl, Tryz.underlying61, by kernel_rfl⟩⟩
instance : PtrT Tryz.prog 61 := ⟨⟨_, Tryz.t128, Tryz.underlying61, by kernel_rfl, by decide⟩⟩
instance : HasT Tryz.prog 61 := ⟨⟨_, Tryz.underlying61⟩⟩
instance : ElT Tryz.prog 61 1 := ⟨⟨Tryz.t61, (.pointer none : Value), by kernel_rfl, by kernel_rfl, by kernel_rfl, by kernel_rfl, by decide, by decide⟩⟩
instance : ZeroT Tryz.prog 61 (.pointer none) := ⟨⟨Tryz.t61, by kernel_rfl, by kernel_rfl⟩⟩
instance : TySz Tryz.prog 62 false 1 := ⟨⟨Tryz.t62, _, by kernel_rfl, by kernel_rfl, Tryz.underlying62, by kernel_rfl⟩⟩
instance : HasT Tryz.prog 62 := ⟨⟨_, Tryz.underlying62⟩⟩
instance : ElT Tryz.prog 62 1 := ⟨⟨Tryz.t62, (.nilFunc : Value), by kernel_rfl, by kernel_rfl, by kernel_rfl, by kernel_rfl, by decide, by decide⟩⟩
instance : ZeroT Tryz.prog 62 (.nilFunc) := ⟨⟨Tryz.t62, by kernel_rfl, by kernel_rfl⟩⟩
instance : TySz Tryz.prog 63 false 1 := ⟨⟨Tryz.t63, _, by kernel_rfl, by kernel_rfl, Tryz.underlying63, by kernel_rfl⟩⟩
instance : HasT Tryz.prog 63 := ⟨⟨_, Tryz.underlying63⟩⟩
instance : ElT Tryz.prog 63 1 := ⟨⟨Tryz.t63, (.nilFunc : Value), by kernel_rfl, by kernel_rfl, by kernel_rfl, by kernel_rfl, by decide, by decide⟩⟩
instance : ZeroT Tryz.prog 63 (.nilFunc) := ⟨⟨Tryz.t63, by kernel_rfl, by kernel_rfl⟩⟩
instance : TySz Tryz.prog 64 false 1 := ⟨⟨Tryz.t64, _, by kernel_rfl, by kernel_rfl, Tryz.underlying64, by kernel_rfl⟩⟩
instance : SliT Tryz.prog 64 82 := ⟨Tryz.underlying64⟩
instance : HasT Tryz.prog 64 := ⟨⟨_, Tryz.underlying64⟩⟩
instance : ElT Tryz.prog 64 1 := ⟨⟨Tryz.t64, (.slice none 0 0 : Value), by kernel_rfl, by kernel_rfl, by kernel_rfl, by kernel_rfl, by decide, by decide⟩⟩
instance : ZeroT Tryz.prog 64 (.slice none 0 0) := ⟨⟨Tryz.t64, by kernel_rfl, by kernel_rfl⟩⟩
instance : TySz Tryz.prog 65 true 2 := ⟨⟨Tryz.t65, _, by kernel_rfl, by kernel_rfl, Tryz.underlying65, by kernel_rfl⟩⟩
instance : FOff Tryz.prog 65 0 0 := ⟨⟨_, _, Tryz.t9, Tryz.underlying65, rfl, rfl, by kernel_rfl, by decide⟩⟩
instance : FTy Tryz.prog 65 0 0 false 1 := ⟨⟨_, _, 9, Tryz.underlying65, rfl, rfl, by kernel_rfl, inferInstance⟩⟩
instance : FOff Tryz.prog 65 1 1 := ⟨⟨_, _, Tryz.t64, Tryz.underlying65, rfl, rfl, by kernel_rfl, by decide⟩⟩
instance : FTy Tryz.prog 65 1 1 false 1 := ⟨⟨_, _, 64, Tryz.underlying65, rfl, rfl, by kernel_rfl, inferInstance⟩⟩
instance : StructT Tryz.prog 65 := ⟨⟨_, Tryz.underlying65, by kernel_rfl⟩⟩
instance : HasT Tryz.prog 65 := ⟨⟨_, Tryz.underlying65⟩⟩
instance : ElT Tryz.prog 65 2 := ⟨⟨Tryz.t65, (.agg [.string ByteArray.empty, .slice none 0 0].toArray : Value), by kernel_rfl, by kernel_rfl, by kernel_rfl, by kernel_rfl, by decide, by decide⟩⟩
instance : ZeroT Tryz.prog 65 (.agg [.string ByteArray.empty, .slice none 0 0].toArray) := ⟨⟨Tryz.t65, by kernel_rfl, by kernel_rfl⟩⟩
instance : TySz Tryz.prog 66 true 2 := ⟨⟨Tryz.t66, _, by kernel_rfl, by kernel_rfl, Tryz.underlying66, by kernel_rfl⟩⟩
instance : FOff Tryz.prog 66 0 0 := ⟨⟨_, _, Tryz.t9, Tryz.underlying66, rfl, rfl, by kernel_rfl, by decide⟩⟩
instance : FTy Tryz.prog 66 0 0 false 1 := ⟨⟨_, _, 9, Tryz.underlying66, rfl, rfl, by kernel_rfl, inferInstance⟩⟩
instance : FOff Tryz.prog 66 1 1 := ⟨⟨_, _, Tryz.t64, Tryz.underlying66, rfl, rfl, by kernel_rfl, by decide⟩⟩
instance : FTy Tryz.prog 66 1 1 false 1 := ⟨⟨_, _, 64, Tryz.underlying66, rfl, rfl, by kernel_rfl, inferInstance⟩⟩
instance : FieldsL Tryz.prog 66 [(9, 0, 1), (64, 1, 1)] 2 := ⟨⟨_, Tryz.underlying66, by kernel_rfl, by kernel_rfl⟩⟩
instance : StructT Tryz.prog 66 := ⟨⟨_, Tryz.underlying66, by kernel_rfl⟩⟩
instance : HasT Tryz.prog 66 := ⟨⟨_, Tryz.underlying66⟩⟩
instance : ElT Tryz.prog 66 2 := ⟨⟨Tryz.t66, (.agg [.string ByteArray.empty, .slice none 0 0].toArray : Value), by kernel_rfl, by kernel_rfl, by kernel_rfl, by kernel_rfl, by decide, by decide⟩⟩
instance : ZeroT Tryz.prog 66 (.agg [.string ByteArray.empty, .slice none 0 0].toArray) := ⟨⟨Tryz.t66, by kernel_rfl, by kernel_rfl⟩⟩
instance : TySz Tryz.prog 67 false 1 := ⟨⟨Tryz.t67, _, by kernel_rfl, by kernel_rfl, Tryz.underlying67, by kernel_rfl⟩⟩
instance : PtrT Tryz.prog 67 := ⟨⟨_, Tryz.t111, Tryz.underlying67, by kernel_rfl, by decide⟩⟩
instance : HasT Tryz.prog 67 := ⟨⟨_, Tryz.underlying67⟩⟩
instance : ElT Tryz.prog 67 1 := ⟨⟨Tryz.t67, (.pointer none : Value), by kernel_rfl, by kernel_rfl, by kernel_rfl, by kernel_rfl, by decide, by decide⟩⟩
instance : ZeroT Tryz.prog 67 (.pointer none) := ⟨⟨Tryz.t67, by kernel_rfl, by kernel_rfl⟩⟩
instance : TySz Tryz.prog 69 false 1 := ⟨⟨Tryz.t69, _, by kernel_rfl, by kernel_rfl, Tryz.underlying69, by kernel_rfl⟩⟩
instance : HasT Tryz.prog 69 := ⟨⟨_, Tryz.underlying69⟩⟩
instance : ElT Tryz.prog 69 1 := ⟨⟨Tryz.t69, (.nilFunc : Value), by kernel_rfl, by kernel_rfl, by kernel_rfl, by kernel_rfl, by decide, by decide⟩⟩
instance : ZeroT Tryz.prog 69 (.nilFunc) := ⟨⟨Tryz.t69, by kernel_rfl, by kernel_rfl⟩⟩
instance : TySz Tryz.prog 70 false 1 := ⟨⟨Tryz.t70, _, by kernel_rfl, by kernel_rfl, Tryz.underlying70, by kernel_rfl⟩⟩
instance : PtrT Tryz.prog 70 := ⟨⟨_, Tryz.t100, Tryz.underlying70, by kernel_rfl, by decide⟩⟩
instance : HasT Tryz.prog 70 := ⟨⟨_, Tryz.underlying70⟩⟩
instance : ElT Tryz.prog 70 1 := ⟨⟨Tryz.t70, (.pointer none : Value), by kernel_rfl, by kernel_rfl, by kernel_rfl, by kernel_rfl, by decide, by decide⟩⟩
instance : ZeroT Tryz.prog 70 (.pointer none) := ⟨⟨Tryz.t70, by kernel_rfl, by kernel_rfl⟩⟩
instance : TySz Tryz.prog 72 false 1 := ⟨⟨Tryz.t72, _, by kernel_rfl, by kernel_rfl, Tryz.underlying72, by kernel_rfl⟩⟩
instance : HasT Tryz.prog 72 := ⟨⟨_, Tryz.underlying72⟩⟩
instance : ElT Tryz.prog 72 1 := ⟨⟨Tryz.t72, (.nilFunc : Value), by kernel_rfl, by kernel_rfl, by kernel_rfl, by kernel_rfl, by decide, by decide⟩⟩
instance : ZeroT Tryz.prog 72 (.nilFunc) := ⟨⟨Tryz.t72, by kernel_rfl, by kernel_rfl⟩⟩
instance : TySz Tryz.prog 74 false 1 := ⟨⟨Tryz.t74, _, by kernel_rfl, by kernel_rfl, Tryz.underlying74, by kernel_rfl⟩⟩
instance : HasT Tryz.prog 74 := ⟨⟨_, Tryz.underlying74⟩⟩
instance : ElT Tryz.prog 74 1 := ⟨⟨Tryz.t74, (.nilFunc : Value), by kernel_rfl, by kernel_rfl, by kernel_rfl, by kernel_rfl, by decide, by decide⟩⟩
instance : ZeroT Tryz.prog 74 (.nilFunc) := ⟨⟨Tryz.t74, by kernel_rfl, by kernel_rfl⟩⟩
instance : TySz Tryz.prog 75 false 1 := ⟨⟨Tryz.t75, _, by kernel_rfl, by kernel_rfl, Tryz.underlying75, by kernel_rfl⟩⟩
instance : HasT Tryz.prog 75 := ⟨⟨_, Tryz.underlying75⟩⟩
instance : ElT Tryz.prog 75 1 := ⟨⟨Tryz.t75, (.nilFunc : Value), by kernel_rfl, by kernel_rfl, by kernel_rfl, by kernel_rfl, by decide, by decide⟩⟩
instance : ZeroT Tryz.prog 75 (.nilFunc) := ⟨⟨Tryz.t75, by kernel_rfl, by kernel_rfl⟩⟩
instance : TySz Tryz.prog 76 false 1 := ⟨⟨Tryz.t76, _, by kernel_rfl, by kernel_rfl, Tryz.underlying76, by kernel_rfl⟩⟩
instance : SliT Tryz.prog 76 118 := ⟨Tryz.underlying76⟩
instance : HasT Tryz.prog 76 := ⟨⟨_, Tryz.underlying76⟩⟩
instance : ElT Tryz.prog 76 1 := ⟨⟨Tryz.t76, (.slice none 0 0 : Value), by kernel_rfl, by kernel_rfl, by kernel_rfl, by kernel_rfl, by decide, by decide⟩⟩
instance : ZeroT Tryz.prog 76 (.slice none 0 0) := ⟨⟨Tryz.t76, by kernel_rfl, by kernel_rfl⟩⟩
instance : TySz Tryz.prog 77 false 1 := ⟨⟨Tryz.t77, _, by kernel_rfl, by kernel_rfl, Tryz.underlying77, by kernel_rfl⟩⟩
instance : SliT Tryz.prog 77 173 := ⟨Tryz.underlying77⟩
instance : HasT Tryz.prog 77 := ⟨⟨_, Tryz.underlying77⟩⟩
instance : ElT Tryz.prog 77 1 := ⟨⟨Tryz.t77, (.slice none 0 0 : Value), by kernel_rfl, by kernel_rfl, by kernel_rfl, by kernel_rfl, by decide, by decide⟩⟩
instance : ZeroT Tryz.prog 77 (.slice none 0 0) := ⟨⟨Tryz.t77, by kernel_rfl, by kernel_rfl⟩⟩
instance : TySz Tryz.prog 78 false 1 := ⟨⟨Tryz.t78, _, by kernel_rfl, by kernel_rfl, Tryz.underlying78, by kernel_rfl⟩⟩
instance : SliT Tryz.prog 78 4 := ⟨Tryz.underlying78⟩
instance : HasT Tryz.prog 78 := ⟨⟨_, Tryz.underlying78⟩⟩
instance : ElT Tryz.prog 78 1 := ⟨⟨Tryz.t78, (.slice none 0 0 : Value), by kernel_rfl, by kernel_rfl, by kernel_rfl, by kernel_rfl, by decide, by decide⟩⟩
instance : ZeroT Tryz.prog 78 (.slice none 0 0) := ⟨⟨Tryz.t78, by kernel_rfl, by kernel_rfl⟩⟩
instance : TySz Tryz.prog 79 true 6 := ⟨⟨Tryz.t79, _, by kernel_rfl, by kernel_rfl, Tryz.underlying79, by kernel_rfl⟩⟩
instance : FOff Tryz.prog 79 0 0 := ⟨⟨_, _, Tryz.t70, Tryz.underlying79, rfl, rfl, by kernel_rfl, by decide⟩⟩
instance : FTy Tryz.prog 79 0 0 false 1 := ⟨⟨_, _, 70, Tryz.underlying79, rfl, rfl, by kernel_rfl, inferInstance⟩⟩
instance : FOff Tryz.prog 79 1 1 := ⟨⟨_, _, Tryz.t76, Tryz.underlying79, rfl, rfl, by kernel_rfl, by decide⟩⟩
instance : FTy Tryz.prog 79 1 1 false 1 := ⟨⟨_, _, 76, Tryz.underlying79, rfl, rfl, by kernel_rfl, inferInstance⟩⟩
instance : FOff Tryz.prog 79 2 2 := ⟨⟨_, _, Tryz.t76, Tryz.underlying79, rfl, rfl, by kernel_rfl, by decide⟩⟩
instance : FTy Tryz.prog 79 2 2 false 1 := ⟨⟨_, _, 76, Tryz.underlying79, rfl, rfl, by kernel_rfl, inferInstance⟩⟩
instance : FOff Tryz.prog 79 3 3 := ⟨⟨_, _, Tryz.t77, Tryz.underlying79, rfl, rfl, by kernel_rfl, by decide⟩⟩
instance : FTy Tryz.prog 79 3 3 false 1 := ⟨⟨_, _, 77, Tryz.underlying79, rfl, rfl, by kernel_rfl, inferInstance⟩⟩
instance : FOff Tryz.prog 79 4 4 := ⟨⟨_, _, Tryz.t76, Tryz.underlying79, rfl, rfl, by kernel_rfl, by decide⟩⟩
instance : FTy Tryz.prog 79 4 4 false 1 := ⟨⟨_, _, 76, Tryz.underlying79, rfl, rfl, by kernel_rfl, inferInstance⟩⟩
instance : FOff Tryz.prog 79 5 5 := ⟨⟨_, _, Tryz.t78, Tryz.underlying79, rfl, rfl, by kernel_rfl, by decide⟩⟩
instance : FTy Tryz.prog 79 5 5 false 1 := ⟨⟨_, _, 78, Tryz.underlying79, rfl, rfl, by kernel_rfl, inferInstance⟩⟩
instance : StructT Tryz.prog 79 := ⟨⟨_, Tryz.underlying79, by kernel_rfl⟩⟩
instance : HasT Tryz.prog 79 := ⟨⟨_, Tryz.underlying79⟩⟩
instance : ElT Tryz.prog 79 6 := ⟨⟨Tryz.t79, (.agg [.pointer none, .slice none 0 0, .slice none 0 0, .slice none 0 0, .slice none 0 0, .slice none 0 0].toArray : Value), by kernel_rfl, by kernel_rfl, by kernel_rfl, by kernel_rfl, by decide, by decide⟩⟩
instance : ZeroT Tryz.prog 79 (.agg [.pointer none, .slice none 0 0, .slice none 0 0, .slice none 0 0, .slice none 0 0, .slice none 0 0].toArray) := ⟨⟨Tryz.t79, by kernel_rfl, by kernel_rfl⟩⟩
instance : TySz Tryz.prog 80 true 6 := ⟨⟨Tryz.t80, _, by kernel_rfl, by kernel_rfl, Tryz.underlying80, by kernel_rfl⟩⟩
instance : FOff Tryz.prog 80 0 0 := ⟨⟨_, _, Tryz.t70, Tryz.underlying80, rfl, rfl, by kernel_rfl, by decide⟩⟩
instance : FTy Tryz.prog 80 0 0 false 1 := ⟨⟨_, _, 70, Tryz.underlying80, rfl, rfl, by kernel_rfl, inferInstance⟩⟩
instance : FOff Tryz.prog 80 1 1 := ⟨⟨_, _, Tryz.t76, Tryz.underlying80, rfl, rfl, by kernel_rfl, by decide⟩⟩
instance : FTy Tryz.prog 80 1 1 false 1 := ⟨⟨_, _, 76, Tryz.underlying80, rfl, rfl, by kernel_rfl, inferInstance⟩⟩
instance : FOff Tryz.prog 80 2 2 := ⟨⟨_, _, Tryz.t76, Tryz.underlying80, rfl, rfl, by kernel_rfl, by decide⟩⟩
instance : FTy Tryz.prog 80 2 2 false 1 := ⟨⟨_, _, 76, Tryz.underlying80, rfl, rfl, by kernel_rfl, inferInstance⟩⟩
instance : FOff Tryz.prog 80 3 3 := ⟨⟨_, _, Tryz.t77, Tryz.underlying80, rfl, rfl, by kernel_rfl, by decide⟩⟩
instance : FTy Tryz.prog 80 3 3 false 1 := ⟨⟨_, _, 77, Tryz.underlying80, rfl, rfl, by kernel_rfl, inferInstance⟩⟩
instance : FOff Tryz.prog 80 4 4 := ⟨⟨_, _, Tryz.t76, Tryz.underlying80, rfl, rfl, by kernel_rfl, by decide⟩⟩
instance : FTy Tryz.prog 80 4 4 false 1 := ⟨⟨_, _, 76, Tryz.underlying80, rfl, rfl, by kernel_rfl, inferInstance⟩⟩
instance : FOff Tryz.prog 80 5 5 := ⟨⟨_, _, Tryz.t78, Tryz.underlying80, rfl, rfl, by kernel_rfl, by decide⟩⟩
instance : FTy Tryz.prog 80 5 5 false 1 := ⟨⟨_, _, 78, Tryz.underlying80, rfl, rfl, by kernel_rfl, inferInstance⟩⟩
instance : FieldsL Tryz.prog 80 [(70, 0, 1), (76, 1, 1), (76, 2, 1), (77, 3, 1), (76, 4, 1), (78, 5, 1)] 6 := ⟨⟨_, Tryz.underlying80, by kernel_rfl, by kernel_rfl⟩⟩
instance : StructT Tryz.prog 80 := ⟨⟨_, Tryz.underlying80, by kernel_rfl⟩⟩
instance : HasT Tryz.prog 80 := ⟨⟨_, Tryz.underlying80⟩⟩
instance : ElT Tryz.prog 80 6 := ⟨⟨Tryz.t80, (.agg [.pointer none, .slice none 0 0, .slice none 0 0, .slice none 0 0, .slice none 0 0, .slice none 0 0].toArray : Value), by kernel_rfl, by kernel_rfl, by kernel_rfl, by kernel_rfl, by decide, by decide⟩⟩
instance : ZeroT Tryz.prog 80 (.agg [.pointer none, .slice none 0 0, .slice none 0 0, .slice none 0 0, .slice none 0 0, .slice none 0 0].toArray) := ⟨⟨Tryz.t80, by kernel_rfl, by kernel_rfl⟩⟩
instance : TySz Tryz.prog 81 true 2 := ⟨⟨Tryz.t81, _, by kernel_rfl, by kernel_rfl, Tryz.underlying81, by kernel_rfl⟩⟩
instance : FOff Tryz.prog 81 0 0 := ⟨⟨_, _, Tryz.t9, Tryz.underlying81, rfl, rfl, by kernel_rfl, by decide⟩⟩
instance : FTy Tryz.prog 81 0 0 false 1 := ⟨⟨_, _, 9, Tryz.underlying81, rfl, rfl, by kernel_rfl, inferInstance⟩⟩
instance : FOff Tryz.prog 81 1 1 := ⟨⟨_, _, Tryz.t3, Tryz.underlying81, rfl, rfl, by kernel_rfl, by decide⟩⟩
instance : FTy Tryz.prog 81 1 1 false 1 := ⟨⟨_, _, 3, Tryz.underlying81, rfl, rfl, by kernel_rfl, inferInstance⟩⟩
instance : StructT Tryz.prog 81 := ⟨⟨_, Tryz.underlying81, by kernel_rfl⟩⟩
instance : HasT Tryz.prog 81 := ⟨⟨_, Tryz.underlying81⟩⟩
instance : ElT Tryz.prog 81 2 := ⟨⟨Tryz.t81, (.agg [.string ByteArray.empty, .int .i64 0].toArray : Value), by kernel_rfl, by kernel_rfl, by kernel_rfl, by kernel_rfl, by decide, by decide⟩⟩
instance : ZeroT Tryz.prog 81 (.agg [.string ByteArray.empty, .int .i64 0].toArray) := ⟨⟨Tryz.t81, by kernel_rfl, by kernel_rfl⟩⟩
instance : TySz Tryz.prog 82 true 2 := ⟨⟨Tryz.t82, _, by kernel_rfl, by kernel_rfl, Tryz.underlying82, by kernel_rfl⟩⟩
instance : FOff Tryz.prog 82 0 0 := ⟨⟨_, _, Tryz.t9, Tryz.underlying82, rfl, rfl, by kernel_rfl, by decide⟩⟩
instance : FTy Tryz.prog 82 0 0 false 1 := ⟨⟨_, _, 9, Tryz.underlying82, rfl, rfl, by kernel_rfl, inferInstance⟩⟩
instance : FOff Tryz.prog 82 1 1 := ⟨⟨_, _, Tryz.t3, Tryz.underlying82, rfl, rfl, by kernel_rfl, by decide⟩⟩
instance : FTy Tryz.prog 82 1 1 false 1 := ⟨⟨_, _, 3, Tryz.underlying82, rfl, rfl, by kernel_rfl, inferInstance⟩⟩
instance : FieldsT Tryz.prog 82 [(9, 0), (3, 1)] := ⟨⟨_, Tryz.underlying82, by kernel_rfl, by kernel_rfl, by kernel_rfl, by kernel_rfl⟩⟩
instance : FieldsL Tryz.prog 82 [(9, 0, 1), (3, 1, 1)] 2 := ⟨⟨_, Tryz.underlying82, by kernel_rfl, by kernel_rfl⟩⟩
instance : StructT Tryz.prog 82 := ⟨⟨_, Tryz.underlying82, by kernel_rfl⟩⟩
instance : HasT Tryz.prog 82 := ⟨⟨_, Tryz.underlying82⟩⟩
instance : ElT Tryz.prog 82 2 := ⟨⟨Tryz.t82, (.agg [.string ByteArray.empty, .int .i64 0].toArray : Value), by kernel_rfl, by kernel_rfl, by kernel_rfl, by kernel_rfl, by decide, by decide⟩⟩
instance : ZeroT Tryz.prog 82 (.agg [.string ByteArray.empty, .int .i64 0].toArray) := ⟨⟨Tryz.t82, by kernel_rfl, by kernel_rfl⟩⟩
instance : TySz Tryz.prog 83 false 1 := ⟨⟨Tryz.t83, _, by kernel_rfl, by kernel_rfl, Tryz.underlying83, by kernel_rfl⟩⟩
instance : HasT Tryz.prog 83 := ⟨⟨_, Tryz.underlying83⟩⟩
instance : ElT Tryz.prog 83 1 := ⟨⟨Tryz.t83, (.nilFunc : Value), by kernel_rfl, by kernel_rfl, by kernel_rfl, by kernel_rfl, by decide, by decide⟩⟩
instance : ZeroT Tryz.prog 83 (.nilFunc) := ⟨⟨Tryz.t83, by kernel_rfl, by kernel_rfl⟩⟩
instance : TySz Tryz.prog 84 false 1 := ⟨⟨Tryz.t84, _, by kernel_rfl, by kernel_rfl, Tryz.underlying84, by kernel_rfl⟩⟩
instance : SliT Tryz.prog 84 2 := ⟨Tryz.underlying84⟩
instance : HasT Tryz.prog 84 := ⟨⟨_, Tryz.underlying84⟩⟩
instance : ElT Tryz.prog 84 1 := ⟨⟨Tryz.t84, (.slice none 0 0 : Value), by kernel_rfl, by kernel_rfl, by kernel_rfl, by kernel_rfl, by decide, by decide⟩⟩
instance : ZeroT Tryz.prog 84 (.slice none 0 0) := ⟨⟨Tryz.t84, by kernel_rfl, by kernel_rfl⟩⟩
instance : TySz Tryz.prog 85 false 1 := ⟨⟨Tryz.t85, _, by kernel_rfl, by kernel_rfl, Tryz.underlying85, by kernel_rfl⟩⟩
instance : SliT Tryz.prog 85 93 := ⟨Tryz.underlying85⟩
instance : HasT Tryz.prog 85 := ⟨⟨_, Tryz.underlying85⟩⟩
instance : ElT Tryz.prog 85 1 := ⟨⟨Tryz.t85, (.slice none 0 0 : Value), by kernel_rfl, by kernel_rfl, by kernel_rfl, by kernel_rfl, by decide, by decide⟩⟩
instance : ZeroT Tryz.prog 85 (.slice none 0 0) := ⟨⟨Tryz.t85, by kernel_rfl, by kernel_rfl⟩⟩
instance : TySz Tryz.prog 86 true 5 := ⟨⟨Tryz.t86, _, by kernel_rfl, by kernel_rfl, Tryz.underlying86, by kernel_rfl⟩⟩
instance : FOff Tryz.prog 86 0 0 := ⟨⟨_, _, Tryz.t61, Tryz.underlying86, rfl, rfl, by kernel_rfl, by decide⟩⟩
instance : FTy Tryz.prog 86 0 0 false 1 := ⟨⟨_, _, 61, Tryz.underlying86, rfl, rfl, by kernel_rfl, inferInstance⟩⟩
instance : FOff Tryz.prog 86 1 1 := ⟨⟨_, _, Tryz.t84, Tryz.underlying86, rfl, rfl, by kernel_rfl, by decide⟩⟩
instance : FTy Tryz.prog 86 1 1 false 1 := ⟨⟨_, _, 84, Tryz.underlying86, rfl, rfl, by kernel_rfl, inferInstance⟩⟩
instance : FOff Tryz.prog 86 2 2 := ⟨⟨_, _, Tryz.t85, Tryz.underlying86, rfl, rfl, by kernel_rfl, by decide⟩⟩
instance : FTy Tryz.prog 86 2 2 false 1 := ⟨⟨_, _, 85, Tryz.underlying86, rfl, rfl, by kernel_rfl, inferInstance⟩⟩
instance : FOff Tryz.prog 86 3 3 := ⟨⟨_, _, Tryz.t3, Tryz.underlying86, rfl, rfl, by kernel_rfl, by decide⟩⟩
instance : FTy Tryz.prog 86 3 3 false 1 := ⟨⟨_, _, 3, Tryz.underlying86, rfl, rfl, by kernel_rfl, inferInstance⟩⟩
instance : FOff Tryz.prog 86 4 4 := ⟨⟨_, _, Tryz.t3, Tryz.underlying86, rfl, rfl, by kernel_rfl, by decide⟩⟩
instance : FTy Tryz.prog 86 4 4 false 1 := ⟨⟨_, _, 3, Tryz.underlying86, rfl, rfl, by kernel_rfl, inferInstance⟩⟩
instance : StructT Tryz.prog 86 := ⟨⟨_, Tryz.underlying86, by kernel_rfl⟩⟩
instance : HasT Tryz.prog 86 := ⟨⟨_, Tryz.underlying86⟩⟩
instance : ElT Tryz.prog 86 5 := ⟨⟨Tryz.t86, (.agg [.pointer none, .slice none 0 0, .slice none 0 0, .int .i64 0, .int .i64 0].toArray : Value), by kernel_rfl, by kernel_rfl, by kernel_rfl, by kernel_rfl, by decide, by decide⟩⟩
instance : ZeroT Tryz.prog 86 (.agg [.pointer none, .slice none 0 0, .slice none 0 0, .int .i64 0, .int .i64 0].toArray) := ⟨⟨Tryz.t86, by kernel_rfl, by kernel_rfl⟩⟩
instance : TySz Tryz.prog 87 true 5 := ⟨⟨Tryz.t87, _, by kernel_rfl, by kernel_rfl, Tryz.underlying87, by kernel_rfl⟩⟩
instance : FOff Tryz.prog 87 0 0 := ⟨⟨_, _, Tryz.t61, Tryz.underlying87, rfl, rfl, by kernel_rfl, by decide⟩⟩
instance : FTy Tryz.prog 87 0 0 false 1 := ⟨⟨_, _, 61, Tryz.underlying87, rfl, rfl, by kernel_rfl, inferInstance⟩⟩
instance : FOff Tryz.prog 87 1 1 := ⟨⟨_, _, Tryz.t84, Tryz.underlying87, rfl, rfl, by kernel_rfl, by decide⟩⟩
instance : FTy Tryz.prog 87 1 1 false 1 := ⟨⟨_, _, 84, Tryz.underlying87, rfl, rfl, by kernel_rfl, inferInstance⟩⟩
instance : FOff Tryz.prog 87 2 2 := ⟨⟨_, _, Tryz.t85, Tryz.underlying87, rfl, rfl, by kernel_rfl, by decide⟩⟩
instance : FTy Tryz.prog 87 2 2 false 1 := ⟨⟨_, _, 85, Tryz.underlying87, rfl, rfl, by kernel_rfl, inferInstance⟩⟩
instance : FOff Tryz.prog 87 3 3 := ⟨⟨_, _, Tryz.t3, Tryz.underlying87, rfl, rfl, by kernel_rfl, by decide⟩⟩
instance : FTy Tryz.prog 87 3 3 false 1 := ⟨⟨_, _, 3, Tryz.underlying87, rfl, rfl, by kernel_rfl, inferInstance⟩⟩
instance : FOff Tryz.prog 87 4 4 := ⟨⟨_, _, Tryz.t3, Tryz.underlying87, rfl, rfl, by kernel_rfl, by decide⟩⟩
instance : FTy Tryz.prog 87 4 4 false 1 := ⟨⟨_, _, 3, Tryz.underlying87, rfl, rfl, by kernel_rfl, inferInstance⟩⟩
instance : FieldsL Tryz.prog 87 [(61, 0, 1), (84, 1, 1), (85, 2, 1), (3, 3, 1), (3, 4, 1)] 5 := ⟨⟨_, Tryz.underlying87, by kernel_rfl, by kernel_rfl⟩⟩
instance : StructT Tryz.prog 87 := ⟨⟨_, Tryz.underlying87, by kernel_rfl⟩⟩
instance : HasT Tryz.prog 87 := ⟨⟨_, Tryz.underlying87⟩⟩
instance : ElT Tryz.prog 87 5 := ⟨⟨Tryz.t87, (.agg [.pointer none, .slice none 0 0, .slice none 0 0, .int .i64 0, .int .i64 0].toArray : Value), by kernel_rfl, by kernel_rfl, by kernel_rfl, by kernel_rfl, by decide, by decide⟩⟩
instance : ZeroT Tryz.prog 87 (.agg [.pointer none, .slice none 0 0, .slice none 0 0, .int .i64 0, .int .i64 0].toArray) := ⟨⟨Tryz.t87, by kernel_rfl, by kernel_rfl⟩⟩
instance : TySz Tryz.prog 88 false 1 := ⟨⟨Tryz.t88, _, by kernel_rfl, by kernel_rfl, Tryz.underlying88, by kernel_rfl⟩⟩
instance : HasT Tryz.prog 88 := ⟨⟨_, Tryz.underlying88⟩⟩
instance : ElT Tryz.prog 88 1 := ⟨⟨Tryz.t88, (.nilFunc : Value), by kernel_rfl, by kernel_rfl, by kernel_rfl, by kernel_rfl, by decide, by decide⟩⟩
instance : ZeroT Tryz.prog 88 (.nilFunc) := ⟨⟨Tryz.t88, by kernel_rfl, by kernel_rfl⟩⟩
instance : TySz Tryz.prog 89 false 1 := ⟨⟨Tryz.t89, _, by kernel_rfl, by kernel_rfl, Tryz.underlying89, by kernel_rfl⟩⟩
instance : HasT Tryz.prog 89 := ⟨⟨_, Tryz.underlying89⟩⟩
instance : ElT Tryz.prog 89 1 := ⟨⟨Tryz.t89, (.nilFunc : Value), by kernel_rfl, by kernel_rfl, by kernel_rfl, by kernel_rfl, by decide, by decide⟩⟩
instance : ZeroT Tryz.prog 89 (.nilFunc) := ⟨⟨Tryz.t89, by kernel_rfl, by kernel_rfl⟩⟩
instance : TySz Tryz.prog 90 false 1 := ⟨⟨Tryz.t90, _, by kernel_rfl, by kernel_rfl, Tryz.underlying90, by kernel_rfl⟩⟩
instance : HasT Tryz.prog 90 := ⟨⟨_, Tryz.underlying90⟩⟩
instance : ElT Tryz.prog 90 1 := ⟨⟨Tryz.t90, (.nilFunc : Value), by kernel_rfl, by kernel_rfl, by kernel_rfl, by kernel_rfl, by decide, by decide⟩⟩
instance : ZeroT Tryz.prog 90 (.nilFunc) := ⟨⟨Tryz.t90, by kernel_rfl, by kernel_rfl⟩⟩
instance : TySz Tryz.prog 91 false 1 := ⟨⟨Tryz.t91, _, by kernel_rfl, by kernel_rfl, Tryz.underlying91, by kernel_rfl⟩⟩
instance : IntT Tryz.prog 91 .u64 := ⟨Tryz.underlying91⟩
instance : HasT Tryz.prog 91 := ⟨⟨_, Tryz.underlying91⟩⟩
instance : ElT Tryz.prog 91 1 := ⟨⟨Tryz.t91, (.int .u64 0 : Value), by kernel_rfl, by kernel_rfl, by kernel_rfl, by kernel_rfl, by decide, by decide⟩⟩
instance : ZeroT Tryz.prog 91 (.int .u64 0) := ⟨⟨Tryz.t91, by kernel_rfl, by kernel_rfl⟩⟩
instance : TySz Tryz.prog 92 true 2 := ⟨⟨Tryz.t92, _, by kernel_rfl, by kernel_rfl, Tryz.underlying92, by kernel_rfl⟩⟩
instance : FOff Tryz.prog 92 0 0 := ⟨⟨_, _, Tryz.t2, Tryz.underlying92, rfl, rfl, by kernel_rfl, by decide⟩⟩
instance : FTy Tryz.prog 92 0 0 false 1 := ⟨⟨_, _, 2, Tryz.underlying92, rfl, rfl, by kernel_rfl, inferInstance⟩⟩
instance : FOff Tryz.prog 92 1 1 := ⟨⟨_, _, Tryz.t91, Tryz.underlying92, rfl, rfl, by kernel_rfl, by decide⟩⟩
instance : FTy Tryz.prog 92 1 1 false 1 := ⟨⟨_, _, 91, Tryz.underlying92, rfl, rfl, by kernel_rfl, inferInstance⟩⟩
instance : StructT Tryz.prog 92 := ⟨⟨_, Tryz.underlying92, by kernel_rfl⟩⟩
instance : HasT Tryz.prog 92 := ⟨⟨_, Tryz.underlying92⟩⟩
instance : ElT Tryz.prog 92 2 := ⟨⟨Tryz.t92, (.agg [.int .i64 0, .int .u64 0].toArray : Value), by kernel_rfl, by kernel_rfl, by kernel_rfl, by kernel_rfl, by decide, by decide⟩⟩
instance : ZeroT Tryz.prog 92 (.agg [.int .i64 0, .int .u64 0].toArray) := ⟨⟨Tryz.t92, by kernel_rfl, by kernel_rfl⟩⟩
instance : TySz Tryz.prog 93 true 2 := ⟨⟨Tryz.t93, _, by kernel_rfl, by kernel_rfl, Tryz.underlying93, by kernel_rfl⟩⟩
instance : FOff Tryz.prog 93 0 0 := ⟨⟨_, _, Tryz.t2, Tryz.underlying93, rfl, rfl, by kernel_rfl, by decide⟩⟩
instance : FTy Tryz.prog 93 0 0 false 1 := ⟨⟨_, _, 2, Tryz.underlying93, rfl, rfl, by kernel_rfl, inferInstance⟩⟩
instance : FOff Tryz.prog 93 1 1 := ⟨⟨_, _, Tryz.t91, Tryz.underlying93, rfl, rfl, by kernel_rfl, by decide⟩⟩
instance : FTy Tryz.prog 93 1 1 false 1 := ⟨⟨_, _, 91, Tryz.underlying93, rfl, rfl, by kernel_rfl, inferInstance⟩⟩
instance : FieldsT Tryz.prog 93 [(2, 0), (91, 1)] := ⟨⟨_, Tryz.underlying93, by kernel_rfl, by kernel_rfl, by kernel_rfl, by kernel_rfl⟩⟩
instance : FieldsL Tryz.prog 93 [(2, 0, 1), (91, 1, 1)] 2 := ⟨⟨_, Tryz.underlying93, by kernel_rfl, by kernel_rfl⟩⟩
instance : StructT Tryz.prog 93 := ⟨⟨_, Tryz.underlying93, by kernel_rfl⟩⟩
instance : HasT Tryz.prog 93 := ⟨⟨_, Tryz.underlying93⟩⟩
instance : ElT Tryz.prog 93 2 := ⟨⟨Tryz.t93, (.agg [.int .i64 0, .int .u64 0].toArray : Value), by kernel_rfl, by kernel_rfl, by kernel_rfl, by kernel_rfl, by decide, by decide⟩⟩
instance : ZeroT Tryz.prog 93 (.agg [.int .i64 0, .int .u64 0].toArray) := ⟨⟨Tryz.t93, by kernel_rfl, by kernel_rfl⟩⟩
instance : TySz Tryz.prog 94 false 1 := ⟨⟨Tryz.t94, _, by kernel_rfl, by kernel_rfl, Tryz.underlying94, by kernel_rfl⟩⟩
instance : HasT Tryz.prog 94 := ⟨⟨_, Tryz.underlying94⟩⟩
instance : ElT Tryz.prog 94 1 := ⟨⟨Tryz.t94, (.nilFunc : Value), by kernel_rfl, by kernel_rfl, by kernel_rfl, by kernel_rfl, by decide, by decide⟩⟩
instance : ZeroT Tryz.prog 94 (.nilFunc) := ⟨⟨Tryz.t94, by kernel_rfl, by kernel_rfl⟩⟩
instance : TySz Tryz.prog 95 false 1 := ⟨⟨Tryz.t95, _, by kernel_rfl, by kernel_rfl, Tryz.underlying95, by kernel_rfl⟩⟩
instance : HasT Tryz.prog 95 := ⟨⟨_, Tryz.underlying95⟩⟩
instance : ElT Tryz.prog 95 1 := ⟨⟨Tryz.t95, (.nilFunc : Value), by kernel_rfl, by kernel_rfl, by kernel_rfl, by kernel_rfl, by decide, by decide⟩⟩
instance : ZeroT Tryz.prog 95 (.nilFunc) := ⟨⟨Tryz.t95, by kernel_rfl, by kernel_rfl⟩⟩
instance : TySz Tryz.prog 96 false 1 := ⟨⟨Tryz.t96, _, by kernel_rfl, by kernel_rfl, Tryz.underlying96, by kernel_rfl⟩⟩
instance : HasT Tryz.prog 96 := ⟨⟨_, Tryz.underlying96⟩⟩
instance : ElT Tryz.prog 96 1 := ⟨⟨Tryz.t96, (.nilFunc : Value), by kernel_rfl, by kernel_rfl, by kernel_rfl, by kernel_rfl, by decide, by decide⟩⟩
instance : ZeroT Tryz.prog 96 (.nilFunc) := ⟨⟨Tryz.t96, by kernel_rfl, by kernel_rfl⟩⟩
instance : TySz Tryz.prog 97 false 1 := ⟨⟨Tryz.t97, _, by kernel_rfl, by kernel_rfl, Tryz.underlying97, by kernel_rfl⟩⟩
instance : HasT Tryz.prog 97 := ⟨⟨_, Tryz.underlying97⟩⟩
instance : ElT Tryz.prog 97 1 := ⟨⟨Tryz.t97, (.nilFunc : Value), by kernel_rfl, by kernel_rfl, by kernel_rfl, by kernel_rfl, by decide, by decide⟩⟩
instance : ZeroT Tryz.prog 97 (.nilFunc) := ⟨⟨Tryz.t97, by kernel_rfl, by kernel_rfl⟩⟩
instance : TySz Tryz.prog 98 false 1 := ⟨⟨Tryz.t98, _, by kernel_rfl, by kernel_rfl, Tryz.underlying98, by kernel_rfl⟩⟩
instance : SliT Tryz.prog 98 103 := ⟨Tryz.underlying98⟩
instance : HasT Tryz.prog 98 := ⟨⟨_, Tryz.underlying98⟩⟩
instance : ElT Tryz.prog 98 1 := ⟨⟨Tryz.t98, (.slice none 0 0 : Value), by kernel_rfl, by kernel_rfl, by kernel_rfl, by kernel_rfl, by decide, by decide⟩⟩
instance : ZeroT Tryz.prog 98 (.slice none 0 0) := ⟨⟨Tryz.t98, by kernel_rfl, by kernel_rfl⟩⟩
instance : TySz Tryz.prog 99 true 5 := ⟨⟨Tryz.t99, _, by kernel_rfl, by kernel_rfl, Tryz.underlying99, by kernel_rfl⟩⟩
instance : FOff Tryz.prog 99 0 0 := ⟨⟨_, _, Tryz.t25, Tryz.underlying99, rfl, rfl, by kernel_rfl, by decide⟩⟩
instance : FTy Tryz.prog 99 0 0 true 4 := ⟨⟨_, _, 25, Tryz.underlying99, rfl, rfl, by kernel_rfl, inferInstance⟩⟩
instance : FOff Tryz.prog 99 1 4 := ⟨⟨_, _, Tryz.t98, Tryz.underlying99, rfl, rfl, by kernel_rfl, by decide⟩⟩
instance : FTy Tryz.prog 99 1 4 false 1 := ⟨⟨_, _, 98, Tryz.underlying99, rfl, rfl, by kernel_rfl, inferInstance⟩⟩
instance : StructT Tryz.prog 99 := ⟨⟨_, Tryz.underlying99, by kernel_rfl⟩⟩
instance : HasT Tryz.prog 99 := ⟨⟨_, Tryz.underlying99⟩⟩
instance : ElT Tryz.prog 99 5 := ⟨⟨Tryz.t99, (.agg [.slice none 0 0, .slice none 0 0, .int .i64 0, .int .i64 0, .slice none 0 0].toArray : Value), by kernel_rfl, by kernel_rfl, by kernel_rfl, by kernel_rfl, by decide, by decide⟩⟩
instance : ZeroT Tryz.prog 99 (.agg [.slice none 0 0, .slice none 0 0, .int .i64 0, .int .i64 0, .slice none 0 0].toArray) := ⟨⟨Tryz.t99, by kernel_rfl, by kernel_rfl⟩⟩
instance : TySz Tryz.prog 100 true 5 := ⟨⟨Tryz.t100, _, by kernel_rfl, by kernel_rfl, Tryz.underlying100, by kernel_rfl⟩⟩
instance : FOff Tryz.prog 100 0 0 := ⟨⟨_, _, Tryz.t25, Tryz.underlying100, rfl, rfl, by kernel_rfl, by decide⟩⟩
instance : FTy Tryz.prog 100 0 0 true 4 := ⟨⟨_, _, 25, Tryz.underlying100, rfl, rfl, by kernel_rfl, inferInstance⟩⟩
instance : FOff Tryz.prog 100 1 4 := ⟨⟨_, _, Tryz.t98, Tryz.underlying100, rfl, rfl, by kernel_rfl, by decide⟩⟩
instance : FTy Tryz.prog 100 1 4 false 1 := ⟨⟨_, _, 98, Tryz.underlying100, rfl, rfl, by kernel_rfl, inferInstance⟩⟩
instance : FieldsL Tryz.prog 100 [(25, 0, 4), (98, 4, 1)] 5 := ⟨⟨_, Tryz.underlying100, by kernel_rfl, by kernel_rfl⟩⟩
instance : StructT Tryz.prog 100 := ⟨⟨_, Tryz.underlying100, by kernel_rfl⟩⟩
instance : HasT Tryz.prog 100 := ⟨⟨_, Tryz.underlying100⟩⟩
instance : ElT Tryz.prog 100 5 := ⟨⟨Tryz.t100, (.agg [.slice none 0 0, .slice none 0 0, .int .i64 0, .int .i64 0, .slice none 0 0].toArray : Value), by kernel_rfl, by kernel_rfl, by kernel_rfl, by kernel_rfl, by decide, by decide⟩⟩
instance : ZeroT Tryz.prog 100 (.agg [.slice none 0 0, .slice none 0 0, .int .i64 0, .int .i64 0, .slice none 0 0].toArray) := ⟨⟨Tryz.t100, by kernel_rfl, by kernel_rfl⟩⟩
instance : TySz Tryz.prog 101 true 1 := ⟨⟨Tryz.t101, _, by kernel_rfl, by kernel_rfl, Tryz.underlying101, by kernel_rfl⟩⟩
instance : FOff Tryz.prog 101 0 0 := ⟨⟨_, _, Tryz.t64, Tryz.underlying101, rfl, rfl, by kernel_rfl, by decide⟩⟩
instance : FTy Tryz.prog 101 0 0 false 1 := ⟨⟨_, _, 64, Tryz.underlying101, rfl, rfl, by kernel_rfl, inferInstance⟩⟩
instance : StructT Tryz.prog 101 := ⟨⟨_, Tryz.underlying101, by kernel_rfl⟩⟩
instance : HasT Tryz.prog 101 := ⟨⟨_, Tryz.underlying101⟩⟩
instance : ElT Tryz.prog 101 1 := ⟨⟨Tryz.t101, (.agg [.slice none 0 0].toArray : Value), by kernel_rfl, by kernel_rfl, by kernel_rfl, by kernel_rfl, by decide, by decide⟩⟩
instance : ZeroT Tryz.prog 101 (.agg [.slice none 0 0].toArray) := ⟨⟨Tryz.t101, by kernel_rfl, by kernel_rfl⟩⟩
instance : TySz Tryz.prog 102 true 1 := ⟨⟨Tryz.t102, _, by kernel_rfl, by kernel_rfl, Tryz.underlying102, by kernel_rfl⟩⟩
instance : FOff Tryz.prog 102 0 0 := ⟨⟨_, _, Tryz.t64, Tryz.underlying102, rfl, rfl, by kernel_rfl, by decide⟩⟩
instance : FTy Tryz.prog 102 0 0 false 1 := ⟨⟨_, _, 64, Tryz.underlying102, rfl, rfl, by kernel_rfl, inferInstance⟩⟩
instance : FieldsL Tryz.prog 102 [(64, 0, 1)] 1 := ⟨⟨_, Tryz.underlying102, by kernel_rfl, by kernel_rfl⟩⟩
instance : StructT Tryz.prog 102 := ⟨⟨_, Tryz.underlying102, by kernel_rfl⟩⟩
instance : HasT Tryz.prog 102 := ⟨⟨_, Tryz.underlying102⟩⟩
instance : ElT Tryz.prog 102 1 := ⟨⟨Tryz.t102, (.agg [.slice none 0 0].toArray : Value), by kernel_rfl, by kernel_rfl, by kernel_rfl, by kernel_rfl, by decide, by decide⟩⟩
instance : ZeroT Tryz.prog 102 (.agg [.slice none 0 0].toArray) := ⟨⟨Tryz.t102, by kernel_rfl, by kernel_rfl⟩⟩
instance : TySz Tryz.prog 103 false 1 := ⟨⟨Tryz.t103, _, by kernel_rfl, by kernel_rfl, Tryz.underlying103, by kernel_rfl⟩⟩
instance : PtrT Tryz.prog 103 := ⟨⟨_, Tryz.t102, Tryz.underlying103, by kernel_rfl, by decide⟩⟩
instance : HasT Tryz.prog 103 := ⟨⟨_, Tryz.underlying103⟩⟩
instance : ElT Tryz.prog 103 1 := ⟨⟨Tryz.t103, (.pointer none : Value), by kernel_rfl, by kernel_rfl, by kernel_rfl, by kernel_rfl, by decide, by decide⟩⟩
instance : ZeroT Tryz.prog 103 (.pointer none) := ⟨⟨Tryz.t103, by kernel_rfl, by kernel_rfl⟩⟩
instance : TySz Tryz.prog 104 false 1 := ⟨⟨Tryz.t104, _, by kernel_rfl, by kernel_rfl, Tryz.underlying104, by kernel_rfl⟩⟩
instance : HasT Tryz.prog 104 := ⟨⟨_, Tryz.underlying104⟩⟩
instance : ElT Tryz.prog 104 1 := ⟨⟨Tryz.t104, (.nilFunc : Value), by kernel_rfl, by kernel_rfl, by kernel_rfl, by kernel_rfl, by decide, by decide⟩⟩
instance : ZeroT Tryz.prog 104 (.nilFunc) := ⟨⟨Tryz.t104, by kernel_rfl, by kernel_rfl⟩⟩
instance : TySz Tryz.prog 105 false 1 := ⟨⟨Tryz.t105, _, by kernel_rfl, by kernel_rfl, Tryz.underlying105, by kernel_rfl⟩⟩
instance : HasT Tryz.prog 105 := ⟨⟨_, Tryz.underlying105⟩⟩
instance : ElT Tryz.prog 105 1 := ⟨⟨Tryz.t105, (.nilFunc : Value), by kernel_rfl, by kernel_rfl, by kernel_rfl, by kernel_rfl, by decide, by decide⟩⟩
instance : ZeroT Tryz.prog 105 (.nilFunc) := ⟨⟨Tryz.t105, by kernel_rfl, by kernel_rfl⟩⟩
instance : TySz Tryz.prog 106 false 1 := ⟨⟨Tryz.t106, _, by kernel_rfl, by kernel_rfl, Tryz.underlying106, by kernel_rfl⟩⟩
instance : HasT Tryz.prog 106 := ⟨⟨_, Tryz.underlying106⟩⟩
instance : ElT Tryz.prog 106 1 := ⟨⟨Tryz.t106, (.nilFunc : Value), by kernel_rfl, by kernel_rfl, by kernel_rfl, by kernel_rfl, by decide, by decide⟩⟩
instance : ZeroT Tryz.prog 106 (.nilFunc) := ⟨⟨Tryz.t106, by kernel_rfl, by kernel_rfl⟩⟩
instance : TySz Tryz.prog 107 false 1 := ⟨⟨Tryz.t107, _, by kernel_rfl, by kernel_rfl, Tryz.underlying107, by kernel_rfl⟩⟩
instance : HasT Tryz.prog 107 := ⟨⟨_, Tryz.underlying107⟩⟩
instance : ElT Tryz.prog 107 1 := ⟨⟨Tryz.t107, (.nilFunc : Value), by kernel_rfl, by kernel_rfl, by kernel_rfl, by kernel_rfl, by decide, by decide⟩⟩
instance : ZeroT Tryz.prog 107 (.nilFunc) := ⟨⟨Tryz.t107, by kernel_rfl, by kernel_rfl⟩⟩
instance : TySz Tryz.prog 108 false 1 := ⟨⟨Tryz.t108, _, by kernel_rfl, by kernel_rfl, Tryz.underlying108, by kernel_rfl⟩⟩
instance : HasT Tryz.prog 108 := ⟨⟨_, Tryz.underlying108⟩⟩
instance : ElT Tryz.prog 108 1 := ⟨⟨Tryz.t108, (.nilFunc : Value), by kernel_rfl, by kernel_rfl, by kernel_rfl, by kernel_rfl, by decide, by decide⟩⟩
instance : ZeroT Tryz.prog 108 (.nilFunc) := ⟨⟨Tryz.t108, by kernel_rfl, by kernel_rfl⟩⟩
instance : TySz Tryz.prog 109 false 1 := ⟨⟨Tryz.t109, _, by kernel_rfl, by kernel_rfl, Tryz.underlying109, by kernel_rfl⟩⟩
instance : SliT Tryz.prog 109 117 := ⟨Tryz.underlying109⟩
instance : HasT Tryz.prog 109 := ⟨⟨_, Tryz.underlying109⟩⟩
instance : ElT Tryz.prog 109 1 := ⟨⟨Tryz.t109, (.slice none 0 0 : Value), by kernel_rfl, by kernel_rfl, by kernel_rfl, by kernel_rfl, by decide, by decide⟩⟩
instance : ZeroT Tryz.prog 109 (.slice none 0 0) := ⟨⟨Tryz.t109, by kernel_rfl, by kernel_rfl⟩⟩
instance : TySz Tryz.prog 110 true 5 := ⟨⟨Tryz.t110, _, by kernel_rfl, by kernel_rfl, Tryz.underlying110, by kernel_rfl⟩⟩
instance : FOff Tryz.prog 110 0 0 := ⟨⟨_, _, Tryz.t25, Tryz.underlying110, rfl, rfl, by kernel_rfl, by decide⟩⟩
instance : FTy Tryz.prog 110 0 0 true 4 := ⟨⟨_, _, 25, Tryz.underlying110, rfl, rfl, by kernel_rfl, inferInstance⟩⟩
instance : FOff Tryz.prog 110 1 4 := ⟨⟨_, _, Tryz.t109, Tryz.underlying110, rfl, rfl, by kernel_rfl, by decide⟩⟩
instance : FTy Tryz.prog 110 1 4 false 1 := ⟨⟨_, _, 109, Tryz.underlying110, rfl, rfl, by kernel_rfl, inferInstance⟩⟩
instance : StructT Tryz.prog 110 := ⟨⟨_, Tryz.underlying110, by kernel_rfl⟩⟩
instance : HasT Tryz.prog 110 := ⟨⟨_, Tryz.underlying110⟩⟩
instance : ElT Tryz.prog 110 5 := ⟨⟨Tryz.t110, (.agg [.slice none 0 0, .slice none 0 0, .int .i64 0, .int .i64 0, .slice none 0 0].toArray : Value), by kernel_rfl, by kernel_rfl, by kernel_rfl, by kernel_rfl, by decide, by decide⟩⟩
instance : ZeroT Tryz.prog 110 (.agg [.slice none 0 0, .slice none 0 0, .int .i64 0, .int .i64 0, .slice none 0 0].toArray) := ⟨⟨Tryz.t110, by kernel_rfl, by kernel_rfl⟩⟩
instance : TySz Tryz.prog 111 true 5 := ⟨⟨Tryz.t111, _, by kernel_rfl, by kernel_rfl, Tryz.underlying111, by kernel_rfl⟩⟩
instance : FOff Tryz.prog 111 0 0 := ⟨⟨_, _, Tryz.t25, Tryz.underlying111, rfl, rfl, by kernel_rfl, by decide⟩⟩
instance : FTy Tryz.prog 111 0 0 true 4 := ⟨⟨_, _, 25, Tryz.underlying111, rfl, rfl, by kernel_rfl, inferInstance⟩⟩
instance : FOff Tryz.prog 111 1 4 := ⟨⟨_, _, Tryz.t109, Tryz.underlying111, rfl, rfl, by kernel_rfl, by decide⟩⟩
instance : FTy Tryz.prog 111 1 4 false 1 := ⟨⟨_, _, 109, Tryz.underlying111, rfl, rfl, by kernel_rfl, inferInstance⟩⟩
instance : FieldsL Tryz.prog 111 [(25, 0, 4), (109, 4, 1)] 5 := ⟨⟨_, Tryz.underlying111, by kernel_rfl, by kernel_rfl⟩⟩
instance : StructT Tryz.prog 111 := ⟨⟨_, Tryz.underlying111, by kernel_rfl⟩⟩
instance : HasT Tryz.prog 111 := ⟨⟨_, Tryz.underlying111⟩⟩
instance : ElT Tryz.prog 111 5 := ⟨⟨Tryz.t111, (.agg [.slice none 0 0, .slice none 0 0, .int .i64 0, .int .i64 0, .slice none 0 0].toArray : Value), by kernel_rfl, by kernel_rfl, by kernel_rfl, by kernel_rfl, by decide, by decide⟩⟩
instance : ZeroT Tryz.prog 111 (.agg [.slice none 0 0, .slice none 0 0, .int .i64 0, .int .i64 0, .slice none 0 0].toArray) := ⟨⟨Tryz.t111, by kernel_rfl, by kernel_rfl⟩⟩
instance : TySz Tryz.prog 112 false 1 := ⟨⟨Tryz.t112, _, by kernel_rfl, by kernel_rfl, Tryz.underlying112, by kernel_rfl⟩⟩
instance : HasT Tryz.prog 112 := ⟨⟨_, Tryz.underlying112⟩⟩
instance : ElT Tryz.prog 112 1 := ⟨⟨Tryz.t112, (.nilFunc : Value), by kernel_rfl, by kernel_rfl, by kernel_rfl, by kernel_rfl, by decide, by decide⟩⟩
instance : ZeroT Tryz.prog 112 (.nilFunc) := ⟨⟨Tryz.t112, by kernel_rfl, by kernel_rfl⟩⟩
instance : TySz Tryz.prog 113 false 1 := ⟨⟨Tryz.t113, _, by kernel_rfl, by kernel_rfl, Tryz.underlying113, by kernel_rfl⟩⟩
instance : PtrT Tryz.prog 113 := ⟨⟨_, Tryz.t154, Tryz.underlying113, by kernel_rfl, by decide⟩⟩
instance : HasT Tryz.prog 113 := ⟨⟨_, Tryz.underlying113⟩⟩
instance : ElT Tryz.prog 113 1 := ⟨⟨Tryz.t113, (.pointer none : Value), by kernel_rfl, by kernel_rfl, by kernel_rfl, by kernel_rfl, by decide, by decide⟩⟩
instance : ZeroT Tryz.prog 113 (.pointer none) := ⟨⟨Tryz.t113, by kernel_rfl, by kernel_rfl⟩⟩
instance : TySz Tryz.prog 115 false 1 := ⟨⟨Tryz.t115, _, by kernel_rfl, by kernel_rfl, Tryz.underlying115, by kernel_rfl⟩⟩
instance : HasT Tryz.prog 115 := ⟨⟨_, Tryz.underlying115⟩⟩
instance : ElT Tryz.prog 115 1 := ⟨⟨Tryz.t115, (.nilFunc : Value), by kernel_rfl, by kernel_rfl, by kernel_rfl, by kernel_rfl, by decide, by decide⟩⟩
instance : ZeroT Tryz.prog 115 (.nilFunc) := ⟨⟨Tryz.t115, by kernel_rfl, by kernel_rfl⟩⟩
instance : TySz Tryz.prog 116 true 2 := ⟨⟨Tryz.t116, _, by kernel_rfl, by kernel_rfl, Tryz.underlying116, by kernel_rfl⟩⟩
instance : FOff Tryz.prog 116 0 0 := ⟨⟨_, _, Tryz.t113, Tryz.underlying116, rfl, rfl, by kernel_rfl, by decide⟩⟩
instance : FTy Tryz.prog 116 0 0 false 1 := ⟨⟨_, _, 113, Tryz.underlying116, rfl, rfl, by kernel_rfl, inferInstance⟩⟩
instance : FOff Tryz.prog 116 1 1 := ⟨⟨_, _, Tryz.t9, Tryz.underlying116, rfl, rfl, by kernel_rfl, by decide⟩⟩
instance : FTy Tryz.prog 116 1 1 false 1 := ⟨⟨_, _, 9, Tryz.underlying116, rfl, rfl, by kernel_rfl, inferInstance⟩⟩
instance : StructT Tryz.prog 116 := ⟨⟨_, Tryz.underlying116, by kernel_rfl⟩⟩
instance : HasT Tryz.prog 116 := ⟨⟨_, Tryz.underlying116⟩⟩
instance : ElT Tryz.prog 116 2 := ⟨⟨Tryz.t116, (.agg [.pointer none, .string ByteArray.empty].toArray : Value), by kernel_rfl, by kernel_rfl, by kernel_rfl, by kernel_rfl, by decide, by decide⟩⟩
instance : ZeroT Tryz.prog 116 (.agg [.pointer none, .string ByteArray.empty].toArray) := ⟨⟨Tryz.t116, by kernel_rfl, by kernel_rfl⟩⟩
instance : TySz Tryz.prog 117 true 2 := ⟨⟨Tryz.t117, _, by kernel_rfl, by kernel_rfl, Tryz.underlying117, by kernel_rfl⟩⟩
instance : FOff Tryz.prog 117 0 0 := ⟨⟨_, _, Tryz.t113, Tryz.underlying117, rfl, rfl, by kernel_rfl, by decide⟩⟩
instance : FTy Tryz.prog 117 0 0 false 1 := ⟨⟨_, _, 113, Tryz.underlying117, rfl, rfl, by kernel_rfl, inferInstance⟩⟩
instance : FOff Tryz.prog 117 1 1 := ⟨⟨_, _, Tryz.t9, Tryz.underlying117, rfl, rfl, by kernel_rfl, by decide⟩⟩
instance : FTy Tryz.prog 117 1 1 false 1 := ⟨⟨_, _, 9, Tryz.underlying117, rfl, rfl, by kernel_rfl, inferInstance⟩⟩
instance : FieldsL Tryz.prog 117 [(113, 0, 1), (9, 1, 1)] 2 := ⟨⟨_, Tryz.underlying117, by kernel_rfl, by kernel_rfl⟩⟩
instance : StructT Tryz.prog 117 := ⟨⟨_, Tryz.underlying117, by kernel_rfl⟩⟩
instance : HasT Tryz.prog 117 := ⟨⟨_, Tryz.underlying117⟩⟩
instance : ElT Tryz.prog 117 2 := ⟨⟨Tryz.t117, (.agg [.pointer none, .string ByteArray.empty].toArray : Value), by kernel_rfl, by kernel_rfl, by kernel_rfl, by kernel_rfl, by decide, by decide⟩⟩
instance : ZeroT Tryz.prog 117 (.agg [.pointer none, .string ByteArray.empty].toArray) := ⟨⟨Tryz.t117, by kernel_rfl, by kernel_rfl⟩⟩
instance : TySz Tryz.prog 118 false 1 := ⟨⟨Tryz.t118, _, by kernel_rfl, by kernel_rfl, Tryz.underlying118, by kernel_rfl⟩⟩
instance : SliT Tryz.prog 118 3 := ⟨Tryz.underlying118⟩
instance : HasT Tryz.prog 118 := ⟨⟨_, Tryz.underlying118⟩⟩
instance : ElT Tryz.prog 118 1 := ⟨⟨Tryz.t118, (.slice none 0 0 : Value), by kernel_rfl, by kernel_rfl, by kernel_rfl, by kernel_rfl, by decide, by decide⟩⟩
instance : ZeroT Tryz.prog 118 (.slice none 0 0) := ⟨⟨Tryz.t118, by kernel_rfl, by kernel_rfl⟩⟩
instance : TySz Tryz.prog 119 false 1 := ⟨⟨Tryz.t119, _, by kernel_rfl, by kernel_rfl, Tryz.underlying119, by kernel_rfl⟩⟩
instance : HasT Tryz.prog 119 := ⟨⟨_, Tryz.underlying119⟩⟩
instance : ElT Tryz.prog 119 1 := ⟨⟨Tryz.t119, (.nilFunc : Value), by kernel_rfl, by kernel_rfl, by kernel_rfl, by kernel_rfl, by decide, by decide⟩⟩
instance : ZeroT Tryz.prog 119 (.nilFunc) := ⟨⟨Tryz.t119, by kernel_rfl, by kernel_rfl⟩⟩
instance : TySz Tryz.prog 120 false 1 := ⟨⟨Tryz.t120, _, by kernel_rfl, by kernel_rfl, Tryz.underlying120, by kernel_rfl⟩⟩
instance : HasT Tryz.prog 120 := ⟨⟨_, Tryz.underlying120⟩⟩
instance : ElT Tryz.prog 120 1 := ⟨⟨Tryz.t120, (.nilFunc : Value), by kernel_rfl, by kernel_rfl, by kernel_rfl, by kernel_rfl, by decide, by decide⟩⟩
instance : ZeroT Tryz.prog 120 (.nilFunc) := ⟨⟨Tryz.t120, by kernel_rfl, by kernel_rfl⟩⟩
instance : TySz Tryz.prog 121 false 1 := ⟨⟨Tryz.t121, _, by kernel_rfl, by kernel_rfl, Tryz.underlying121, by kernel_rfl⟩⟩
instance : HasT Tryz.prog 121 := ⟨⟨_, Tryz.underlying121⟩⟩
instance : ElT Tryz.prog 121 1 := ⟨⟨Tryz.t121, (.nilFunc : Value), by kernel_rfl, by kernel_rfl, by kernel_rfl, by kernel_rfl, by decide, by decide⟩⟩
instance : ZeroT Tryz.prog 121 (.nilFunc) := ⟨⟨Tryz.t121, by kernel_rfl, by kernel_rfl⟩⟩
instance : TySz Tryz.prog 123 false 1 := ⟨⟨Tryz.t123, _, by kernel_rfl, by kernel_rfl, Tryz.underlying123, by kernel_rfl⟩⟩
instance : HasT Tryz.prog 123 := ⟨⟨_, Tryz.underlying123⟩⟩
instance : ElT Tryz.prog 123 1 := ⟨⟨Tryz.t123, (.nilFunc : Value), by kernel_rfl, by kernel_rfl, by kernel_rfl, by kernel_rfl, by decide, by decide⟩⟩
instance : ZeroT Tryz.prog 123 (.nilFunc) := ⟨⟨Tryz.t123, by kernel_rfl, by kernel_rfl⟩⟩
instance : TySz Tryz.prog 124 false 1 := ⟨⟨Tryz.t124, _, by kernel_rfl, by kernel_rfl, Tryz.underlying124, by kernel_rfl⟩⟩
instance : HasT Tryz.prog 124 := ⟨⟨_, Tryz.underlying124⟩⟩
instance : ElT Tryz.prog 124 1 := ⟨⟨Tryz.t124, (.nilFunc : Value), by kernel_rfl, by kernel_rfl, by kernel_rfl, by kernel_rfl, by decide, by decide⟩⟩
instance : ZeroT Tryz.prog 124 (.nilFunc) := ⟨⟨Tryz.t124, by kernel_rfl, by kernel_rfl⟩⟩
instance : TySz Tryz.prog 125 false 1 := ⟨⟨Tryz.t125, _, by kernel_rfl, by kernel_rfl, Tryz.underlying125, by kernel_rfl⟩⟩
instance : SliT Tryz.prog 125 113 := ⟨Tryz.underlying125⟩
instance : HasT Tryz.prog 125 := ⟨⟨_, Tryz.underlying125⟩⟩
instance : ElT Tryz.prog 125 1 := ⟨⟨Tryz.t125, (.slice none 0 0 : Value), by kernel_rfl, by kernel_rfl, by kernel_rfl, by kernel_rfl, by decide, by decide⟩⟩
instance : ZeroT Tryz.prog 125 (.slice none 0 0) := ⟨⟨Tryz.t125, by kernel_rfl, by kernel_rfl⟩⟩
instance : TySz Tryz.prog 126 true 4 := ⟨⟨Tryz.t126, _, by kernel_rfl, by kernel_rfl, Tryz.underlying126, by kernel_rfl⟩⟩
instance : ArrT Tryz.prog 126 4 3 := ⟨Tryz.underlying126⟩
instance : HasT Tryz.prog 126 := ⟨⟨_, Tryz.underlying126⟩⟩
instance : ElT Tryz.prog 126 4 := ⟨⟨Tryz.t126, (.agg [.int .i64 0, .int .i64 0, .int .i64 0, .int .i64 0].toArray : Value), by kernel_rfl, by kernel_rfl, by kernel_rfl, by kernel_rfl, by decide, by decide⟩⟩
instance : ZeroT Tryz.prog 126 (.agg [.int .i64 0, .int .i64 0, .int .i64 0, .int .i64 0].toArray) := ⟨⟨Tryz.t126, by kernel_rfl, by kernel_rfl⟩⟩
instance : TySz Tryz.prog 127 true 12 := ⟨⟨Tryz.t127, _, by kernel_rfl, by kernel_rfl, Tryz.underlying127, by kernel_rfl⟩⟩
instance : FOff Tryz.prog 127 0 0 := ⟨⟨_, _, Tryz.t67, Tryz.underlying127, rfl, rfl, by kernel_rfl, by decide⟩⟩
instance : FTy Tryz.prog 127 0 0 false 1 := ⟨⟨_, _, 67, Tryz.underlying127, rfl, rfl, by kernel_rfl, inferInstance⟩⟩
instance : FOff Tryz.prog 127 1 1 := ⟨⟨_, _, Tryz.t3, Tryz.underlying127, rfl, rfl, by kernel_rfl, by decide⟩⟩
instance : FTy Tryz.prog 127 1 1 false 1 := ⟨⟨_, _, 3, Tryz.underlying127, rfl, rfl, by kernel_rfl, inferInstance⟩⟩
instance : FOff Tryz.prog 127 2 2 := ⟨⟨_, _, Tryz.t125, Tryz.underlying127, rfl, rfl, by kernel_rfl, by decide⟩⟩
instance : FTy Tryz.prog 127 2 2 false 1 := ⟨⟨_, _, 125, Tryz.underlying127, rfl, rfl, by kernel_rfl, inferInstance⟩⟩
instance : FOff Tryz.prog 127 3 3 := ⟨⟨_, _, Tryz.t76, Tryz.underlying127, rfl, rfl, by kernel_rfl, by decide⟩⟩
instance : FTy Tryz.prog 127 3 3 false 1 := ⟨⟨_, _, 76, Tryz.underlying127, rfl, rfl, by kernel_rfl, inferInstance⟩⟩
instance : FOff Tryz.prog 127 4 4 := ⟨⟨_, _, Tryz.t126, Tryz.underlying127, rfl, rfl, by kernel_rfl, by decide⟩⟩
instance : FTy Tryz.prog 127 4 4 true 4 := ⟨⟨_, _, 126, Tryz.underlying127, rfl, rfl, by kernel_rfl, inferInstance⟩⟩
instance : FOff Tryz.prog 127 5 8 := ⟨⟨_, _, Tryz.t126, Tryz.underlying127, rfl, rfl, by kernel_rfl, by decide⟩⟩
instance : FTy Tryz.prog 127 5 8 true 4 := ⟨⟨_, _, 126, Tryz.underlying127, rfl, rfl, by kernel_rfl, inferInstance⟩⟩
instance : StructT Tryz.prog 127 := ⟨⟨_, Tryz.underlying127, by kernel_rfl⟩⟩
instance : HasT Tryz.prog 127 := ⟨⟨_, Tryz.underlying127⟩⟩
instance : ElT Tryz.prog 127 12 := ⟨⟨Tryz.t127, (.agg [.pointer none, .int .i64 0, .slice none 0 0, .slice none 0 0, .int .i64 0, .int .i64 0, .int .i64 0, .int .i64 0, .int .i64 0, .int .i64 0, .int .i64 0, .int .i64 0].toArray : Value), by kernel_rfl, by kernel_rfl, by kernel_rfl, by kernel_rfl, by decide, by decide⟩⟩
instance : ZeroT Tryz.prog 127 (.agg [.pointer none, .int .i64 0, .slice none 0 0, .slice none 0 0, .int .i64 0, .int .i64 0, .int .i64 0, .int .i64 0, .int .i64 0, .int .i64 0, .int .i64 0, .int .i64 0].toArray) := ⟨⟨Tryz.t127, by kernel_rfl, by kernel_rfl⟩⟩
instance : TySz Tryz.prog 128 true 12 := ⟨⟨Tryz.t128, _, by kernel_rfl, by kernel_rfl, Tryz.underlying128, by kernel_rfl⟩⟩
instance : FOff Tryz.prog 128 0 0 := ⟨⟨_, _, Tryz.t67, Tryz.underlying128, rfl, rfl, by kernel_rfl, by decide⟩⟩
instance : FTy Tryz.prog 128 0 0 false 1 := ⟨⟨_, _, 67, Tryz.underlying128, rfl, rfl, by kernel_rfl, inferInstance⟩⟩
instance : FOff Tryz.prog 128 1 1 := ⟨⟨_, _, Tryz.t3, Tryz.underlying128, rfl, rfl, by kernel_rfl, by decide⟩⟩
instance : FTy Tryz.prog 128 1 1 false 1 := ⟨⟨_, _, 3, Tryz.underlying128, rfl, rfl, by kernel_rfl, inferInstance⟩⟩
instance : FOff Tryz.prog 128 2 2 := ⟨⟨_, _, Tryz.t125, Tryz.underlying128, rfl, rfl, by kernel_rfl, by decide⟩⟩
instance : FTy Tryz.prog 128 2 2 false 1 := ⟨⟨_, _, 125, Tryz.underlying128, rfl, rfl, by kernel_rfl, inferInstance⟩⟩
instance : FOff Tryz.prog 128 3 3 := ⟨⟨_, _, Tryz.t76, Tryz.underlying128, rfl, rfl, by kernel_rfl, by decide⟩⟩
instance : FTy Tryz.prog 128 3 3 false 1 := ⟨⟨_, _, 76, Tryz.underlying128, rfl, rfl, by kernel_rfl, inferInstance⟩⟩
instance : FOff Tryz.prog 128 4 4 := ⟨⟨_, _, Tryz.t126, Tryz.underlying128, rfl, rfl, by kernel_rfl, by decide⟩⟩
instance : FTy Tryz.prog 128 4 4 true 4 := ⟨⟨_, _, 126, Tryz.underlying128, rfl, rfl, by kernel_rfl, inferInstance⟩⟩
instance : FOff Tryz.prog 128 5 8 := ⟨⟨_, _, Tryz.t126, Tryz.underlying128, rfl, rfl, by kernel_rfl, by decide⟩⟩
instance : FTy Tryz.prog 128 5 8 true 4 := ⟨⟨_, _, 126, Tryz.underlying128, rfl, rfl, by kernel_rfl, inferInstance⟩⟩
instance : FieldsL Tryz.prog 128 [(67, 0, 1), (3, 1, 1), (125, 2, 1), (76, 3, 1), (126, 4, 4), (126, 8, 4)] 12 := ⟨⟨_, Tryz.underlying128, by kernel_rfl, by kernel_rfl⟩⟩
instance : StructT Tryz.prog 128 := ⟨⟨_, Tryz.underlying128, by kernel_rfl⟩⟩
instance : HasT Tryz.prog 128 := ⟨⟨_, Tryz.underlying128⟩⟩
instance : ElT Tryz.prog 128 12 := ⟨⟨Tryz.t128, (.agg [.pointer none, .int .i64 0, .slice none 0 0, .slice none 0 0, .int .i64 0, .int .i64 0, .int .i64 0, .int .i64 0, .int .i64 0, .int .i64 0, .int .i64 0, .int .i64 0].toArray : Value), by kernel_rfl, by kernel_rfl, by kernel_rfl, by kernel_rfl, by decide, by decide⟩⟩
instance : ZeroT Tryz.prog 128 (.agg [.pointer none, .int .i64 0, .slice none 0 0, .slice none 0 0, .int .i64 0, .int .i64 0, .int .i64 0, .int .i64 0, .int .i64 0, .int .i64 0, .int .i64 0, .int .i64 0].toArray) := ⟨⟨Tryz.t128, by kernel_rfl, by kernel_rfl⟩⟩
instance : TySz Tryz.prog 129 false 1 := ⟨⟨Tryz.t129, _, by kernel_rfl, by kernel_rfl, Tryz.underlying129, by kernel_rfl⟩⟩
instance : HasT Tryz.prog 129 := ⟨⟨_, Tryz.underlying129⟩⟩
instance : ElT Tryz.prog 129 1 := ⟨⟨Tryz.t129, (.nilFunc : Value), by kernel_rfl, by kernel_rfl, by kernel_rfl, by kernel_rfl, by decide, by decide⟩⟩
instance : ZeroT Tryz.prog 129 (.nilFunc) := ⟨⟨Tryz.t129, by kernel_rfl, by kernel_rfl⟩⟩
instance : TySz Tryz.prog 130 false 1 := ⟨⟨Tryz.t130, _, by kernel_rfl, by kernel_rfl, Tryz.underlying130, by kernel_rfl⟩⟩
instance : HasT Tryz.prog 130 := ⟨⟨_, Tryz.underlying130⟩⟩
instance : ElT Tryz.prog 130 1 := ⟨⟨Tryz.t130, (.nilFunc : Value), by kernel_rfl, by kernel_rfl, by kernel_rfl, by kernel_rfl, by decide, by decide⟩⟩
instance : ZeroT Tryz.prog 130 (.nilFunc) := ⟨⟨Tryz.t130, by kernel_rfl, by kernel_rfl⟩⟩
instance : TySz Tryz.prog 131 false 1 := ⟨⟨Tryz.t131, _, by kernel_rfl, by kernel_rfl, Tryz.underlying131, by kernel_rfl⟩⟩
instance : HasT Tryz.prog 131 := ⟨⟨_, Tryz.underlying131⟩⟩
instance : ElT Tryz.prog 131 1 := ⟨⟨Tryz.t131, (.nilFunc : Value), by kernel_rfl, by kernel_rfl, by kernel_rfl, by kernel_rfl, by decide, by decide⟩⟩
instance : ZeroT Tryz.prog 131 (.nilFunc) := ⟨⟨Tryz.t131, by kernel_rfl, by kernel_rfl⟩⟩
instance : TySz Tryz.prog 132 false 1 := ⟨⟨Tryz.t132, _, by kernel_rfl, by kernel_rfl, Tryz.underlying132, by kernel_rfl⟩⟩
instance : HasT Tryz.prog 132 := ⟨⟨_, Tryz.underlying132⟩⟩
instance : ElT Tryz.prog 132 1 := ⟨⟨Tryz.t132, (.nilFunc : Value), by kernel_rfl, by kernel_rfl, by kernel_rfl, by kernel_rfl, by decide, by decide⟩⟩
instance : ZeroT Tryz.prog 132 (.nilFunc) := ⟨⟨Tryz.t132, by kernel_rfl, by kernel_rfl⟩⟩
instance : TySz Tryz.prog 133 false 1 := ⟨⟨Tryz.t133, _, by kernel_rfl, by kernel_rfl, Tryz.underlying133, by kernel_rfl⟩⟩
instance : HasT Tryz.prog 133 := ⟨⟨_, Tryz.underlying133⟩⟩
instance : ElT Tryz.prog 133 1 := ⟨⟨Tryz.t133, (.nilFunc : Value), by kernel_rfl, by kernel_rfl, by kernel_rfl, by kernel_rfl, by decide, by decide⟩⟩
instance : ZeroT Tryz.prog 133 (.nilFunc) := ⟨⟨Tryz.t133, by kernel_rfl, by kernel_rfl⟩⟩
instance : TySz Tryz.prog 134 false 1 := ⟨⟨Tryz.t134, _, by kernel_rfl, by kernel_rfl, Tryz.underlying134, by kernel_rfl⟩⟩
instance : HasT Tryz.prog 134 := ⟨⟨_, Tryz.underlying134⟩⟩
instance : ElT Tryz.prog 134 1 := ⟨⟨Tryz.t134, (.nilFunc : Value), by kernel_rfl, by kernel_rfl, by kernel_rfl, by kernel_rfl, by decide, by decide⟩⟩
instance : ZeroT Tryz.prog 134 (.nilFunc) := ⟨⟨Tryz.t134, by kernel_rfl, by kernel_rfl⟩⟩
instance : TySz Tryz.prog 135 false 1 := ⟨⟨Tryz.t135, _, by kernel_rfl, by kernel_rfl, Tryz.underlying135, by kernel_rfl⟩⟩
instance : HasT Tryz.prog 135 := ⟨⟨_, Tryz.underlying135⟩⟩
instance : ElT Tryz.prog 135 1 := ⟨⟨Tryz.t135, (.nilFunc : Value), by kernel_rfl, by kernel_rfl, by kernel_rfl, by kernel_rfl, by decide, by decide⟩⟩
instance : ZeroT Tryz.prog 135 (.nilFunc) := ⟨⟨Tryz.t135, by kernel_rfl, by kernel_rfl⟩⟩
instance : TySz Tryz.prog 136 false 1 := ⟨⟨Tryz.t136, _, by kernel_rfl, by kernel_rfl, Tryz.underlying136, by kernel_rfl⟩⟩
instance : HasT Tryz.prog 136 := ⟨⟨_, Tryz.underlying136⟩⟩
instance : ElT Tryz.prog 136 1 := ⟨⟨Tryz.t136, (.nilFunc : Value), by kernel_rfl, by kernel_rfl, by kernel_rfl, by kernel_rfl, by decide, by decide⟩⟩
instance : ZeroT Tryz.prog 136 (.nilFunc) := ⟨⟨Tryz.t136, by kernel_rfl, by kernel_rfl⟩⟩
instance : TySz Tryz.prog 138 false 1 := ⟨⟨Tryz.t138, _, by kernel_rfl, by kernel_rfl, Tryz.underlying138, by kernel_rfl⟩⟩
instance : HasT Tryz.prog 138 := ⟨⟨_, Tryz.underlying138⟩⟩
instance : ElT Tryz.prog 138 1 := ⟨⟨Tryz.t138, (.nilFunc : Value), by kernel_rfl, by kernel_rfl, by kernel_rfl, by kernel_rfl, by decide, by decide⟩⟩
instance : ZeroT Tryz.prog 138 (.nilFunc) := ⟨⟨Tryz.t138, by kernel_rfl, by kernel_rfl⟩⟩
instance : TySz Tryz.prog 139 false 1 := ⟨⟨Tryz.t139, _, by kernel_rfl, by kernel_rfl, Tryz.underlying139, by kernel_rfl⟩⟩
instance : IntT Tryz.prog 139 .u64 := ⟨Tryz.underlying139⟩
instance : HasT Tryz.prog 139 := ⟨⟨_, Tryz.underlying139⟩⟩
instance : ElT Tryz.prog 139 1 := ⟨⟨Tryz.t139, (.int .u64 0 : Value), by kernel_rfl, by kernel_rfl, by kernel_rfl, by kernel_rfl, by decide, by decide⟩⟩
instance : ZeroT Tryz.prog 139 (.int .u64 0) := ⟨⟨Tryz.t139, by kernel_rfl, by kernel_rfl⟩⟩
instance : TySz Tryz.prog 140 false 1 := ⟨⟨Tryz.t140, _, by kernel_rfl, by kernel_rfl, Tryz.underlying140, by kernel_rfl⟩⟩
instance : HasT Tryz.prog 140 := ⟨⟨_, Tryz.underlying140⟩⟩
instance : ElT Tryz.prog 140 1 := ⟨⟨Tryz.t140, (.nilFunc : Value), by kernel_rfl, by kernel_rfl, by kernel_rfl, by kernel_rfl, by decide, by decide⟩⟩
instance : ZeroT Tryz.prog 140 (.nilFunc) := ⟨⟨Tryz.t140, by kernel_rfl, by kernel_rfl⟩⟩
instance : TySz Tryz.prog 141 false 1 := ⟨⟨Tryz.t141, _, by kernel_rfl, by kernel_rfl, Tryz.underlying141, by kernel_rfl⟩⟩
instance : HasT Tryz.prog 141 := ⟨⟨_, Tryz.underlying141⟩⟩
instance : ElT Tryz.prog 141 1 := ⟨⟨Tryz.t141, (.nilFunc : Value), by kernel_rfl, by kernel_rfl, by kernel_rfl, by kernel_rfl, by decide, by decide⟩⟩
instance : ZeroT Tryz.prog 141 (.nilFunc) := ⟨⟨Tryz.t141, by kernel_rfl, by kernel_rfl⟩⟩
instance : TySz Tryz.prog 142 false 1 := ⟨⟨Tryz.t142, _, by kernel_rfl, by kernel_rfl, Tryz.underlying142, by kernel_rfl⟩⟩
instance : HasT Tryz.prog 142 := ⟨⟨_, Tryz.underlying142⟩⟩
instance : ElT Tryz.prog 142 1 := ⟨⟨Tryz.t142, (.nilFunc : Value), by kernel_rfl, by kernel_rfl, by kernel_rfl, by kernel_rfl, by decide, by decide⟩⟩
instance : ZeroT Tryz.prog 142 (.nilFunc) := ⟨⟨Tryz.t142, by kernel_rfl, by kernel_rfl⟩⟩
instance : TySz Tryz.prog 144 false 1 := ⟨⟨Tryz.t144, _, by kernel_rfl, by kernel_rfl, Tryz.underlying144, by kernel_rfl⟩⟩
instance : HasT Tryz.prog 144 := ⟨⟨_, Tryz.underlying144⟩⟩
instance : ElT Tryz.prog 144 1 := ⟨⟨Tryz.t144, (.nilFunc : Value), by kernel_rfl, by kernel_rfl, by kernel_rfl, by kernel_rfl, by decide, by decide⟩⟩
instance : ZeroT Tryz.prog 144 (.nilFunc) := ⟨⟨Tryz.t144, by kernel_rfl, by kernel_rfl⟩⟩
instance : TySz Tryz.prog 145 false 1 := ⟨⟨Tryz.t145, _, by kernel_rfl, by kernel_rfl, Tryz.underlying145, by kernel_rfl⟩⟩
instance : HasT Tryz.prog 145 := ⟨⟨_, Tryz.underlying145⟩⟩
instance : ElT Tryz.prog 145 1 := ⟨⟨Tryz.t145, (.nilFunc : Value), by kernel_rfl, by kernel_rfl, by kernel_rfl, by kernel_rfl, by decide, by decide⟩⟩
instance : ZeroT Tryz.prog 145 (.nilFunc) := ⟨⟨Tryz.t145, by kernel_rfl, by kernel_rfl⟩⟩
instance : TySz Tryz.prog 146 false 1 := ⟨⟨Tryz.t146, _, by kernel_rfl, by kernel_rfl, Tryz.underlying146, by kernel_rfl⟩⟩
instance : HasT Tryz.prog 146 := ⟨⟨_, Tryz.underlying146⟩⟩
instance : ElT Tryz.prog 146 1 := ⟨⟨Tryz.t146, (.nilFunc : Value), by kernel_rfl, by kernel_rfl, by kernel_rfl, by kernel_rfl, by decide, by decide⟩⟩
instance : ZeroT Tryz.prog 146 (.nilFunc) := ⟨⟨Tryz.t146, by kernel_rfl, by kernel_rfl⟩⟩
instance : TySz Tryz.prog 147 false 1 := ⟨⟨Tryz.t147, _, by kernel_rfl, by kernel_rfl, Tryz.underlying147, by kernel_rfl⟩⟩
instance : HasT Tryz.prog 147 := ⟨⟨_, Tryz.underlying147⟩⟩
instance : ElT Tryz.prog 147 1 := ⟨⟨Tryz.t147, (.nilFunc : Value), by kernel_rfl, by kernel_rfl, by kernel_rfl, by kernel_rfl, by decide, by decide⟩⟩
instance : ZeroT Tryz.prog 147 (.nilFunc) := ⟨⟨Tryz.t147, by kernel_rfl, by kernel_rfl⟩⟩
instance : TySz Tryz.prog 148 false 1 := ⟨⟨Tryz.t148, _, by kernel_rfl, by kernel_rfl, Tryz.underlying148, by kernel_rfl⟩⟩
instance : HasT Tryz.prog 148 := ⟨⟨_, Tryz.underlying148⟩⟩
instance : ElT Tryz.prog 148 1 := ⟨⟨Tryz.t148, (.nilFunc : Value), by kernel_rfl, by kernel_rfl, by kernel_rfl, by kernel_rfl, by decide, by decide⟩⟩
instance : ZeroT Tryz.prog 148 (.nilFunc) := ⟨⟨Tryz.t148, by kernel_rfl, by kernel_rfl⟩⟩
instance : TySz Tryz.prog 149 false 1 := ⟨⟨Tryz.t149, _, by kernel_rfl, by kernel_rfl, Tryz.underlying149, by kernel_rfl⟩⟩
instance : HasT Tryz.prog 149 := ⟨⟨_, Tryz.underlying149⟩⟩
instance : ElT Tryz.prog 149 1 := ⟨⟨Tryz.t149, (.nilFunc : Value), by kernel_rfl, by kernel_rfl, by kernel_rfl, by kernel_rfl, by decide, by decide⟩⟩
instance : ZeroT Tryz.prog 149 (.nilFunc) := ⟨⟨Tryz.t149, by kernel_rfl, by kernel_rfl⟩⟩
instance : TySz Tryz.prog 150 false 1 := ⟨⟨Tryz.t150, _, by kernel_rfl, by kernel_rfl, Tryz.underlying150, by kernel_rfl⟩⟩
instance : HasT Tryz.prog 150 := ⟨⟨_, Tryz.underlying150⟩⟩
instance : ElT Tryz.prog 150 1 := ⟨⟨Tryz.t150, (.nilFunc : Value), by kernel_rfl, by kernel_rfl, by kernel_rfl, by kernel_rfl, by decide, by decide⟩⟩
instance : ZeroT Tryz.prog 150 (.nilFunc) := ⟨⟨Tryz.t150, by kernel_rfl, by kernel_rfl⟩⟩
instance : TySz Tryz.prog 151 false 1 := ⟨⟨Tryz.t151, _, by kernel_rfl, by kernel_rfl, Tryz.underlying151, by kernel_rfl⟩⟩
instance : MapT Tryz.prog 151 9 3 := ⟨Tryz.underlying151⟩
instance : HasT Tryz.prog 151 := ⟨⟨_, Tryz.underlying151⟩⟩
instance : ElT Tryz.prog 151 1 := ⟨⟨Tryz.t151, (.map none : Value), by kernel_rfl, by kernel_rfl, by kernel_rfl, by kernel_rfl, by decide, by decide⟩⟩
instance : ZeroT Tryz.prog 151 (.map none) := ⟨⟨Tryz.t151, by kernel_rfl, by kernel_rfl⟩⟩
instance : TySz Tryz.prog 152 false 1 := ⟨⟨Tryz.t152, _, by kernel_rfl, by kernel_rfl, Tryz.underlying152, by kernel_rfl⟩⟩
instance : SliT Tryz.prog 152 171 := ⟨Tryz.underlying152⟩
instance : HasT Tryz.prog 152 := ⟨⟨_, Tryz.underlying152⟩⟩
instance : ElT Tryz.prog 152 1 := ⟨⟨Tryz.t152, (.slice none 0 0 : Value), by kernel_rfl, by kernel_rfl, by kernel_rfl, by kernel_rfl, by decide, by decide⟩⟩
instance : ZeroT Tryz.prog 152 (.slice none 0 0) := ⟨⟨Tryz.t152, by kernel_rfl, by kernel_rfl⟩⟩
instance : TySz Tryz.prog 153 true 6 := ⟨⟨Tryz.t153, _, by kernel_rfl, by kernel_rfl, Tryz.underlying153, by kernel_rfl⟩⟩
instance : FOff Tryz.prog 153 0 0 := ⟨⟨_, _, Tryz.t64, Tryz.underlying153, rfl, rfl, by kernel_rfl, by decide⟩⟩
instance : FTy Tryz.prog 153 0 0 false 1 := ⟨⟨_, _, 64, Tryz.underlying153, rfl, rfl, by kernel_rfl, inferInstance⟩⟩
instance : FOff Tryz.prog 153 1 1 := ⟨⟨_, _, Tryz.t151, Tryz.underlying153, rfl, rfl, by kernel_rfl, by decide⟩⟩
instance : FTy Tryz.prog 153 1 1 false 1 := ⟨⟨_, _, 151, Tryz.underlying153, rfl, rfl, by kernel_rfl, inferInstance⟩⟩
instance : FOff Tryz.prog 153 2 2 := ⟨⟨_, _, Tryz.t76, Tryz.underlying153, rfl, rfl, by kernel_rfl, by decide⟩⟩
instance : FTy Tryz.prog 153 2 2 false 1 := ⟨⟨_, _, 76, Tryz.underlying153, rfl, rfl, by kernel_rfl, inferInstance⟩⟩
instance : FOff Tryz.prog 153 3 3 := ⟨⟨_, _, Tryz.t118, Tryz.underlying153, rfl, rfl, by kernel_rfl, by decide⟩⟩
instance : FTy Tryz.prog 153 3 3 false 1 := ⟨⟨_, _, 118, Tryz.underlying153, rfl, rfl, by kernel_rfl, inferInstance⟩⟩
instance : FOff Tryz.prog 153 4 4 := ⟨⟨_, _, Tryz.t118, Tryz.underlying153, rfl, rfl, by kernel_rfl, by decide⟩⟩
instance : FTy Tryz.prog 153 4 4 false 1 := ⟨⟨_, _, 118, Tryz.underlying153, rfl, rfl, by kernel_rfl, inferInstance⟩⟩
instance : FOff Tryz.prog 153 5 5 := ⟨⟨_, _, Tryz.t152, Tryz.underlying153, rfl, rfl, by kernel_rfl, by decide⟩⟩
instance : FTy Tryz.prog 153 5 5 false 1 := ⟨⟨_, _, 152, Tryz.underlying153, rfl, rfl, by kernel_rfl, inferInstance⟩⟩
instance : StructT Tryz.prog 153 := ⟨⟨_, Tryz.underlying153, by kernel_rfl⟩⟩
instance : HasT Tryz.prog 153 := ⟨⟨_, Tryz.underlying153⟩⟩
instance : ElT Tryz.prog 153 6 := ⟨⟨Tryz.t153, (.agg [.slice none 0 0, .map none, .slice none 0 0, .slice none 0 0, .slice none 0 0, .slice none 0 0].toArray : Value), by kernel_rfl, by kernel_rfl, by kernel_rfl, by kernel_rfl, by decide, by decide⟩⟩
instance : ZeroT Tryz.prog 153 (.agg [.slice none 0 0, .map none, .slice none 0 0, .slice none 0 0, .slice none 0 0, .slice none 0 0].toArray) := ⟨⟨Tryz.t153, by kernel_rfl, by kernel_rfl⟩⟩
instance : TySz Tryz.prog 154 true 6 := ⟨⟨Tryz.t154, _, by kernel_rfl, by kernel_rfl, Tryz.underlying154, by kernel_rfl⟩⟩
instance : FOff Tryz.prog 154 0 0 := ⟨⟨_, _, Tryz.t64, Tryz.underlying154, rfl, rfl, by kernel_rfl, by decide⟩⟩
instance : FTy Tryz.prog 154 0 0 false 1 := ⟨⟨_, _, 64, Tryz.underlying154, rfl, rfl, by kernel_rfl, inferInstance⟩⟩
instance : FOff Tryz.prog 154 1 1 := ⟨⟨_, _, Tryz.t151, Tryz.underlying154, rfl, rfl, by kernel_rfl, by decide⟩⟩
instance : FTy Tryz.prog 154 1 1 false 1 := ⟨⟨_, _, 151, Tryz.underlying154, rfl, rfl, by kernel_rfl, inferInstance⟩⟩
instance : FOff Tryz.prog 154 2 2 := ⟨⟨_, _, Tryz.t76, Tryz.underlying154, rfl, rfl, by kernel_rfl, by decide⟩⟩
instance : FTy Tryz.prog 154 2 2 false 1 := ⟨⟨_, _, 76, Tryz.underlying154, rfl, rfl, by kernel_rfl, inferInstance⟩⟩
instance : FOff Tryz.prog 154 3 3 := ⟨⟨_, _, Tryz.t118, Tryz.underlying154, rfl, rfl, by kernel_rfl, by decide⟩⟩
instance : FTy Tryz.prog 154 3 3 false 1 := ⟨⟨_, _, 118, Tryz.underlying154, rfl, rfl, by kernel_rfl, inferInstance⟩⟩
instance : FOff Tryz.prog 154 4 4 := ⟨⟨_, _, Tryz.t118, Tryz.underlying154, rfl, rfl, by kernel_rfl, by decide⟩⟩
instance : FTy Tryz.prog 154 4 4 false 1 := ⟨⟨_, _, 118, Tryz.underlying154, rfl, rfl, by kernel_rfl, inferInstance⟩⟩
instance : FOff Tryz.prog 154 5 5 := ⟨⟨_, _, Tryz.t152, Tryz.underlying154, rfl, rfl, by kernel_rfl, by decide⟩⟩
instance : FTy Tryz.prog 154 5 5 false 1 := ⟨⟨_, _, 152, Tryz.underlying154, rfl, rfl, by kernel_rfl, inferInstance⟩⟩
instance : FieldsL Tryz.prog 154 [(64, 0, 1), (151, 1, 1), (76, 2, 1), (118, 3, 1), (118, 4, 1), (152, 5, 1)] 6 := ⟨⟨_, Tryz.underlying154, by kernel_rfl, by kernel_rfl⟩⟩
instance : StructT Tryz.prog 154 := ⟨⟨_, Tryz.underlying154, by kernel_rfl⟩⟩
instance : HasT Tryz.prog 154 := ⟨⟨_, Tryz.underlying154⟩⟩
instance : ElT Tryz.prog 154 6 := ⟨⟨Tryz.t154, (.agg [.slice none 0 0, .map none, .slice none 0 0, .slice none 0 0, .slice none 0 0, .slice none 0 0].toArray : Value), by kernel_rfl, by kernel_rfl, by kernel_rfl, by kernel_rfl, by decide, by decide⟩⟩
instance : ZeroT Tryz.prog 154 (.agg [.slice none 0 0, .map none, .slice none 0 0, .slice none 0 0, .slice none 0 0, .slice none 0 0].toArray) := ⟨⟨Tryz.t154, by kernel_rfl, by kernel_rfl⟩⟩
instance : TySz Tryz.prog 155 false 1 := ⟨⟨Tryz.t155, _, by kernel_rfl, by kernel_rfl, Tryz.underlying155, by kernel_rfl⟩⟩
instance : HasT Tryz.prog 155 := ⟨⟨_, Tryz.underlying155⟩⟩
instance : ElT Tryz.prog 155 1 := ⟨⟨Tryz.t155, (.nilFunc : Value), by kernel_rfl, by kernel_rfl, by kernel_rfl, by kernel_rfl, by decide, by decide⟩⟩
instance : ZeroT Tryz.prog 155 (.nilFunc) := ⟨⟨Tryz.t155, by kernel_rfl, by kernel_rfl⟩⟩
instance : TySz Tryz.prog 156 false 1 := ⟨⟨Tryz.t156, _, by kernel_rfl, by kernel_rfl, Tryz.underlying156, by kernel_rfl⟩⟩
instance : HasT Tryz.prog 156 := ⟨⟨_, Tryz.underlying156⟩⟩
instance : ElT Tryz.prog 156 1 := ⟨⟨Tryz.t156, (.nilFunc : Value), by kernel_rfl, by kernel_rfl, by kernel_rfl, by kernel_rfl, by decide, by decide⟩⟩
instance : ZeroT Tryz.prog 156 (.nilFunc) := ⟨⟨Tryz.t156, by kernel_rfl, by kernel_rfl⟩⟩
instance : TySz Tryz.prog 157 false 1 := ⟨⟨Tryz.t157, _, by kernel_rfl, by kernel_rfl, Tryz.underlying157, by kernel_rfl⟩⟩
instance : HasT Tryz.prog 157 := ⟨⟨_, Tryz.underlying157⟩⟩
instance : ElT Tryz.prog 157 1 := ⟨⟨Tryz.t157, (.nilFunc : Value), by kernel_rfl, by kernel_rfl, by kernel_rfl, by kernel_rfl, by decide, by decide⟩⟩
instance : ZeroT Tryz.prog 157 (.nilFunc) := ⟨⟨Tryz.t157, by kernel_rfl, by kernel_rfl⟩⟩
instance : TySz Tryz.prog 158 false 1 := ⟨⟨Tryz.t158, _, by kernel_rfl, by kernel_rfl, Tryz.underlying158, by kernel_rfl⟩⟩
instance : HasT Tryz.prog 158 := ⟨⟨_, Tryz.underlying158⟩⟩
instance : ElT Tryz.prog 158 1 := ⟨⟨Tryz.t158, (.nilFunc : Value), by kernel_rfl, by kernel_rfl, by kernel_rfl, by kernel_rfl, by decide, by decide⟩⟩
instance : ZeroT Tryz.prog 158 (.nilFunc) := ⟨⟨Tryz.t158, by kernel_rfl, by kernel_rfl⟩⟩
instance : TySz Tryz.prog 159 false 1 := ⟨⟨Tryz.t159, _, by kernel_rfl, by kernel_rfl, Tryz.underlying159, by kernel_rfl⟩⟩
instance : HasT Tryz.prog 159 := ⟨⟨_, Tryz.underlying159⟩⟩
instance : ElT Tryz.prog 159 1 := ⟨⟨Tryz.t159, (.nilFunc : Value), by kernel_rfl, by kernel_rfl, by kernel_rfl, by kernel_rfl, by decide, by decide⟩⟩
instance : ZeroT Tryz.prog 159 (.nilFunc) := ⟨⟨Tryz.t159, by kernel_rfl, by kernel_rfl⟩⟩
instance : TySz Tryz.prog 160 false 1 := ⟨⟨Tryz.t160, _, by kernel_rfl, by kernel_rfl, Tryz.underlying160, by kernel_rfl⟩⟩
instance : HasT Tryz.prog 160 := ⟨⟨_, Tryz.underlying160⟩⟩
instance : ElT Tryz.prog 160 1 := ⟨⟨Tryz.t160, (.nilFunc : Value), by kernel_rfl, by kernel_rfl, by kernel_rfl, by kernel_rfl, by decide, by decide⟩⟩
instance : ZeroT Tryz.prog 160 (.nilFunc) := ⟨⟨Tryz.t160, by kernel_rfl, by kernel_rfl⟩⟩
instance : TySz Tryz.prog 161 false 1 := ⟨⟨Tryz.t161, _, by kernel_rfl, by kernel_rfl, Tryz.underlying161, by kernel_rfl⟩⟩
instance : HasT Tryz.prog 161 := ⟨⟨_, Tryz.underlying161⟩⟩
instance : ElT Tryz.prog 161 1 := ⟨⟨Tryz.t161, (.nilFunc : Value), by kernel_rfl, by kernel_rfl, by kernel_rfl, by kernel_rfl, by decide, by decide⟩⟩
instance : ZeroT Tryz.prog 161 (.nilFunc) := ⟨⟨Tryz.t161, by kernel_rfl, by kernel_rfl⟩⟩
instance : TySz Tryz.prog 162 false 1 := ⟨⟨Tryz.t162, _, by kernel_rfl, by kernel_rfl, Tryz.underlying162, by kernel_rfl⟩⟩
instance : HasT Tryz.prog 162 := ⟨⟨_, Tryz.underlying162⟩⟩
instance : ElT Tryz.prog 162 1 := ⟨⟨Tryz.t162, (.nilFunc : Value), by kernel_rfl, by kernel_rfl, by kernel_rfl, by kernel_rfl, by decide, by decide⟩⟩
instance : ZeroT Tryz.prog 162 (.nilFunc) := ⟨⟨Tryz.t162, by kernel_rfl, by kernel_rfl⟩⟩
instance : TySz Tryz.prog 163 false 1 := ⟨⟨Tryz.t163, _, by kernel_rfl, by kernel_rfl, Tryz.underlying163, by kernel_rfl⟩⟩
instance : HasT Tryz.prog 163 := ⟨⟨_, Tryz.underlying163⟩⟩
instance : ElT Tryz.prog 163 1 := ⟨⟨Tryz.t163, (.nilFunc : Value), by kernel_rfl, by kernel_rfl, by kernel_rfl, by kernel_rfl, by decide, by decide⟩⟩
instance : ZeroT Tryz.prog 163 (.nilFunc) := ⟨⟨Tryz.t163, by kernel_rfl, by kernel_rfl⟩⟩
instance : TySz Tryz.prog 164 false 1 := ⟨⟨Tryz.t164, _, by kernel_rfl, by kernel_rfl, Tryz.underlying164, by kernel_rfl⟩⟩
instance : HasT Tryz.prog 164 := ⟨⟨_, Tryz.underlying164⟩⟩
instance : ElT Tryz.prog 164 1 := ⟨⟨Tryz.t164, (.nilFunc : Value), by kernel_rfl, by kernel_rfl, by kernel_rfl, by kernel_rfl, by decide, by decide⟩⟩
instance : ZeroT Tryz.prog 164 (.nilFunc) := ⟨⟨Tryz.t164, by kernel_rfl, by kernel_rfl⟩⟩
instance : TySz Tryz.prog 165 true 2 := ⟨⟨Tryz.t165, _, by kernel_rfl, by kernel_rfl, Tryz.underlying165, by kernel_rfl⟩⟩
instance : FOff Tryz.prog 165 0 0 := ⟨⟨_, _, Tryz.t2, Tryz.underlying165, rfl, rfl, by kernel_rfl, by decide⟩⟩
instance : FTy Tryz.prog 165 0 0 false 1 := ⟨⟨_, _, 2, Tryz.underlying165, rfl, rfl, by kernel_rfl, inferInstance⟩⟩
instance : FOff Tryz.prog 165 1 1 := ⟨⟨_, _, Tryz.t91, Tryz.underlying165, rfl, rfl, by kernel_rfl, by decide⟩⟩
instance : FTy Tryz.prog 165 1 1 false 1 := ⟨⟨_, _, 91, Tryz.underlying165, rfl, rfl, by kernel_rfl, inferInstance⟩⟩
instance : FieldsT Tryz.prog 165 [(2, 0), (91, 1)] := ⟨⟨_, Tryz.underlying165, by kernel_rfl, by kernel_rfl, by kernel_rfl, by kernel_rfl⟩⟩
instance : FieldsL Tryz.prog 165 [(2, 0, 1), (91, 1, 1)] 2 := ⟨⟨_, Tryz.underlying165, by kernel_rfl, by kernel_rfl⟩⟩
instance : StructT Tryz.prog 165 := ⟨⟨_, Tryz.underlying165, by kernel_rfl⟩⟩
instance : HasT Tryz.prog 165 := ⟨⟨_, Tryz.underlying165⟩⟩
instance : ElT Tryz.prog 165 2 := ⟨⟨Tryz.t165, (.agg [.int .i64 0, .int .u64 0].toArray : Value), by kernel_rfl, by kernel_rfl, by kernel_rfl, by kernel_rfl, by decide, by decide⟩⟩
instance : ZeroT Tryz.prog 165 (.agg [.int .i64 0, .int .u64 0].toArray) := ⟨⟨Tryz.t165, by kernel_rfl, by kernel_rfl⟩⟩
instance : TySz Tryz.prog 166 false 1 := ⟨⟨Tryz.t166, _, by kernel_rfl, by kernel_rfl, Tryz.underlying166, by kernel_rfl⟩⟩
instance : HasT Tryz.prog 166 := ⟨⟨_, Tryz.underlying166⟩⟩
instance : ElT Tryz.prog 166 1 := ⟨⟨Tryz.t166, (.nilFunc : Value), by kernel_rfl, by kernel_rfl, by kernel_rfl, by kernel_rfl, by decide, by decide⟩⟩
instance : ZeroT Tryz.prog 166 (.nilFunc) := ⟨⟨Tryz.t166, by kernel_rfl, by kernel_rfl⟩⟩
instance : TySz Tryz.prog 167 false 1 := ⟨⟨Tryz.t167, _, by kernel_rfl, by kernel_rfl, Tryz.underlying167, by kernel_rfl⟩⟩
instance : HasT Tryz.prog 167 := ⟨⟨_, Tryz.underlying167⟩⟩
instance : ElT Tryz.prog 167 1 := ⟨⟨Tryz.t167, (.nilFunc : Value), by kernel_rfl, by kernel_rfl, by kernel_rfl, by kernel_rfl, by decide, by decide⟩⟩
instance : ZeroT Tryz.prog 167 (.nilFunc) := ⟨⟨Tryz.t167, by kernel_rfl, by kernel_rfl⟩⟩
instance : TySz Tryz.prog 168 false 1 := ⟨⟨Tryz.t168, _, by kernel_rfl, by kernel_rfl, Tryz.underlying168, by kernel_rfl⟩⟩
instance : HasT Tryz.prog 168 := ⟨⟨_, Tryz.underlying168⟩⟩
instance : ElT Tryz.prog 168 1 := ⟨⟨Tryz.t168, (.nilFunc : Value), by kernel_rfl, by kernel_rfl, by kernel_rfl, by kernel_rfl, by decide, by decide⟩⟩
instance : ZeroT Tryz.prog 168 (.nilFunc) := ⟨⟨Tryz.t168, by kernel_rfl, by kernel_rfl⟩⟩
instance : TySz Tryz.prog 169 false 1 := ⟨⟨Tryz.t169, _, by kernel_rfl, by kernel_rfl, Tryz.underlying169, by kernel_rfl⟩⟩
instance : HasT Tryz.prog 169 := ⟨⟨_, Tryz.underlying169⟩⟩
instance : ElT Tryz.prog 169 1 := ⟨⟨Tryz.t169, (.nilFunc : Value), by kernel_rfl, by kernel_rfl, by kernel_rfl, by kernel_rfl, by decide, by decide⟩⟩
instance : ZeroT Tryz.prog 169 (.nilFunc) := ⟨⟨Tryz.t169, by kernel_rfl, by kernel_rfl⟩⟩
instance : TySz Tryz.prog 170 true 2 := ⟨⟨Tryz.t170, _, by kernel_rfl, by kernel_rfl, Tryz.underlying170, by kernel_rfl⟩⟩
instance : FOff Tryz.prog 170 0 0 := ⟨⟨_, _, Tryz.t3, Tryz.underlying170, rfl, rfl, by kernel_rfl, by decide⟩⟩
instance : FTy Tryz.prog 170 0 0 false 1 := ⟨⟨_, _, 3, Tryz.underlying170, rfl, rfl, by kernel_rfl, inferInstance⟩⟩
instance : FOff Tryz.prog 170 1 1 := ⟨⟨_, _, Tryz.t3, Tryz.underlying170, rfl, rfl, by kernel_rfl, by decide⟩⟩
instance : FTy Tryz.prog 170 1 1 false 1 := ⟨⟨_, _, 3, Tryz.underlying170, rfl, rfl, by kernel_rfl, inferInstance⟩⟩
instance : StructT Tryz.prog 170 := ⟨⟨_, Tryz.underlying170, by kernel_rfl⟩⟩
instance : HasT Tryz.prog 170 := ⟨⟨_, Tryz.underlying170⟩⟩
instance : ElT Tryz.prog 170 2 := ⟨⟨Tryz.t170, (.agg [.int .i64 0, .int .i64 0].toArray : Value), by kernel_rfl, by kernel_rfl, by kernel_rfl, by kernel_rfl, by decide, by decide⟩⟩
instance : ZeroT Tryz.prog 170 (.agg [.int .i64 0, .int .i64 0].toArray) := ⟨⟨Tryz.t170, by kernel_rfl, by kernel_rfl⟩⟩
instance : TySz Tryz.prog 171 true 2 := ⟨⟨Tryz.t171, _, by kernel_rfl, by kernel_rfl, Tryz.underlying171, by kernel_rfl⟩⟩
instance : FOff Tryz.prog 171 0 0 := ⟨⟨_, _, Tryz.t3, Tryz.underlying171, rfl, rfl, by kernel_rfl, by decide⟩⟩
instance : FTy Tryz.prog 171 0 0 false 1 := ⟨⟨_, _, 3, Tryz.underlying171, rfl, rfl, by kernel_rfl, inferInstance⟩⟩
instance : FOff Tryz.prog 171 1 1 := ⟨⟨_, _, Tryz.t3, Tryz.underlying171, rfl, rfl, by kernel_rfl, by decide⟩⟩
instance : FTy Tryz.prog 171 1 1 false 1 := ⟨⟨_, _, 3, Tryz.underlying171, rfl, rfl, by kernel_rfl, inferInstance⟩⟩
instance : FieldsT Tryz.prog 171 [(3, 0), (3, 1)] := ⟨⟨_, Tryz.underlying171, by kernel_rfl, by kernel_rfl, by kernel_rfl, by kernel_rfl⟩⟩
instance : FieldsL Tryz.prog 171 [(3, 0, 1), (3, 1, 1)] 2 := ⟨⟨_, Tryz.underlying171, by kernel_rfl, by kernel_rfl⟩⟩
instance : StructT Tryz.prog 171 := ⟨⟨_, Tryz.underlying171, by kernel_rfl⟩⟩
instance : HasT Tryz.prog 171 := ⟨⟨_, Tryz.underlying171⟩⟩
instance : ElT Tryz.prog 171 2 := ⟨⟨Tryz.t171, (.agg [.int .i64 0, .int .i64 0].toArray : Value), by kernel_rfl, by kernel_rfl, by kernel_rfl, by kernel_rfl, by decide, by decide⟩⟩
instance : ZeroT Tryz.prog 171 (.agg [.int .i64 0, .int .i64 0].toArray) := ⟨⟨Tryz.t171, by kernel_rfl, by kernel_rfl⟩⟩
instance : TySz Tryz.prog 172 false 1 := ⟨⟨Tryz.t172, _, by kernel_rfl, by kernel_rfl, Tryz.underlying172, by kernel_rfl⟩⟩
instance : HasT Tryz.prog 172 := ⟨⟨_, Tryz.underlying172⟩⟩
instance : ElT Tryz.prog 172 1 := ⟨⟨Tryz.t172, (.nilFunc : Value), by kernel_rfl, by kernel_rfl, by kernel_rfl, by kernel_rfl, by decide, by decide⟩⟩
instance : ZeroT Tryz.prog 172 (.nilFunc) := ⟨⟨Tryz.t172, by kernel_rfl, by kernel_rfl⟩⟩
instance : TySz Tryz.prog 173 false 1 := ⟨⟨Tryz.t173, _, by kernel_rfl, by kernel_rfl, Tryz.underlying173, by kernel_rfl⟩⟩
instance : SliT Tryz.prog 173 78 := ⟨Tryz.underlying173⟩
instance : HasT Tryz.prog 173 := ⟨⟨_, Tryz.underlying173⟩⟩
instance : ElT Tryz.prog 173 1 := ⟨⟨Tryz.t173, (.slice none 0 0 : Value), by kernel_rfl, by kernel_rfl, by kernel_rfl, by kernel_rfl, by decide, by decide⟩⟩
instance : ZeroT Tryz.prog 173 (.slice none 0 0) := ⟨⟨Tryz.t173, by kernel_rfl, by kernel_rfl⟩⟩
instance : TySz Tryz.prog 174 false 1 := ⟨⟨Tryz.t174, _, by kernel_rfl, by kernel_rfl, Tryz.underlying174, by kernel_rfl⟩⟩
instance : HasT Tryz.prog 174 := ⟨⟨_, Tryz.underlying174⟩⟩
instance : ElT Tryz.prog 174 1 := ⟨⟨Tryz.t174, (.nilFunc : Value), by kernel_rfl, by kernel_rfl, by kernel_rfl, by kernel_rfl, by decide, by decide⟩⟩
instance : ZeroT Tryz.prog 174 (.nilFunc) := ⟨⟨Tryz.t174, by kernel_rfl, by kernel_rfl⟩⟩
instance : TySz Tryz.prog 175 false 1 := ⟨⟨Tryz.t175, _, by kernel_rfl, by kernel_rfl, Tryz.underlying175, by kernel_rfl⟩⟩
instance : HasT Tryz.prog 175 := ⟨⟨_, Tryz.underlying175⟩⟩
instance : ElT Tryz.prog 175 1 := ⟨⟨Tryz.t175, (.nilFunc : Value), by kernel_rfl, by kernel_rfl, by kernel_rfl, by kernel_rfl, by decide, by decide⟩⟩
instance : ZeroT Tryz.prog 175 (.nilFunc) := ⟨⟨Tryz.t175, by kernel_rfl, by kernel_rfl⟩⟩
instance : TySz Tryz.prog 176 false 1 := ⟨⟨Tryz.t176, _, by kernel_rfl, by kernel_rfl, Tryz.underlying176, by kernel_rfl⟩⟩
instance : IntT Tryz.prog 176 .i64 := ⟨Tryz.underlying176⟩
instance : HasT Tryz.prog 176 := ⟨⟨_, Tryz.underlying176⟩⟩
instance : ElT Tryz.prog 176 1 := ⟨⟨Tryz.t176, (.int .i64 0 : Value), by kernel_rfl, by kernel_rfl, by kernel_rfl, by kernel_rfl, by decide, by decide⟩⟩
instance : ZeroT Tryz.prog 176 (.int .i64 0) := ⟨⟨Tryz.t176, by kernel_rfl, by kernel_rfl⟩⟩
instance : TySz Tryz.prog 178 false 1 := ⟨⟨Tryz.t178, _, by kernel_rfl, by kernel_rfl, Tryz.underlying178, by kernel_rfl⟩⟩
instance : HasT Tryz.prog 178 := ⟨⟨_, Tryz.underlying178⟩⟩
instance : ElT Tryz.prog 178 1 := ⟨⟨Tryz.t178, (.nilFunc : Value), by kernel_rfl, by kernel_rfl, by kernel_rfl, by kernel_rfl, by decide, by decide⟩⟩
instance : ZeroT Tryz.prog 178 (.nilFunc) := ⟨⟨Tryz.t178, by kernel_rfl, by kernel_rfl⟩⟩
instance : TySz Tryz.prog 179 false 1 := ⟨⟨Tryz.t179, _, by kernel_rfl, by kernel_rfl, Tryz.underlying179, by kernel_rfl⟩⟩
instance : HasT Tryz.prog 179 := ⟨⟨_, Tryz.underlying179⟩⟩
instance : ElT Tryz.prog 179 1 := ⟨⟨Tryz.t179, (.nilFunc : Value), by kernel_rfl, by kernel_rfl, by kernel_rfl, by kernel_rfl, by decide, by decide⟩⟩
instance : ZeroT Tryz.prog 179 (.nilFunc) := ⟨⟨Tryz.t179, by kernel_rfl, by kernel_rfl⟩⟩
instance : TySz Tryz.prog 180 false 1 := ⟨⟨Tryz.t180, _, by kernel_rfl, by kernel_rfl, Tryz.underlying180, by kernel_rfl⟩⟩
instance : HasT Tryz.prog 180 := ⟨⟨_, Tryz.underlying180⟩⟩
instance : ElT Tryz.prog 180 1 := ⟨⟨Tryz.t180, (.nilFunc : Value), by kernel_rfl, by kernel_rfl, by kernel_rfl, by kernel_rfl, by decide, by decide⟩⟩
instance : ZeroT Tryz.prog 180 (.nilFunc) := ⟨⟨Tryz.t180, by kernel_rfl, by kernel_rfl⟩⟩
instance : TySz Tryz.prog 182 false 1 := ⟨⟨Tryz.t182, _, by kernel_rfl, by kernel_rfl, Tryz.underlying182, by kernel_rfl⟩⟩
instance : HasT Tryz.prog 182 := ⟨⟨_, Tryz.underlying182⟩⟩
instance : ElT Tryz.prog 182 1 := ⟨⟨Tryz.t182, (.nilFunc : Value), by kernel_rfl, by kernel_rfl, by kernel_rfl, by kernel_rfl, by decide, by decide⟩⟩
instance : ZeroT Tryz.prog 182 (.nilFunc) := ⟨⟨Tryz.t182, by kernel_rfl, by kernel_rfl⟩⟩
instance : TySz Tryz.prog 183 false 1 := ⟨⟨Tryz.t183, _, by kernel_rfl, by kernel_rfl, Tryz.underlying183, by kernel_rfl⟩⟩
instance : HasT Tryz.prog 183 := ⟨⟨_, Tryz.underlying183⟩⟩
instance : ElT Tryz.prog 183 1 := ⟨⟨Tryz.t183, (.nilFunc : Value), by kernel_rfl, by kernel_rfl, by kernel_rfl, by kernel_rfl, by decide, by decide⟩⟩
instance : ZeroT Tryz.prog 183 (.nilFunc) := ⟨⟨Tryz.t183, by kernel_rfl, by kernel_rfl⟩⟩
instance : TySz Tryz.prog 184 false 1 := ⟨⟨Tryz.t184, _, by kernel_rfl, by kernel_rfl, Tryz.underlying184, by kernel_rfl⟩⟩
instance : IntT Tryz.prog 184 .u32 := ⟨Tryz.underlying184⟩
instance : HasT Tryz.prog 184 := ⟨⟨_, Tryz.underlying184⟩⟩
instance : ElT Tryz.prog 184 1 := ⟨⟨Tryz.t184, (.int .u32 0 : Value), by kernel_rfl, by kernel_rfl, by kernel_rfl, by kernel_rfl, by decide, by decide⟩⟩
instance : ZeroT Tryz.prog 184 (.int .u32 0) := ⟨⟨Tryz.t184, by kernel_rfl, by kernel_rfl⟩⟩
instance : TySz Tryz.prog 185 false 1 := ⟨⟨Tryz.t185, _, by kernel_rfl, by kernel_rfl, Tryz.underlying185, by kernel_rfl⟩⟩
instance : HasT Tryz.prog 185 := ⟨⟨_, Tryz.underlying185⟩⟩
instance : ElT Tryz.prog 185 1 := ⟨⟨Tryz.t185, (.nilFunc : Value), by kernel_rfl, by kernel_rfl, by kernel_rfl, by kernel_rfl, by decide, by decide⟩⟩
instance : ZeroT Tryz.prog 185 (.nilFunc) := ⟨⟨Tryz.t185, by kernel_rfl, by kernel_rfl⟩⟩
instance : TySz Tryz.prog 186 false 1 := ⟨⟨Tryz.t186, _, by kernel_rfl, by kernel_rfl, Tryz.underlying186, by kernel_rfl⟩⟩
instance : HasT Tryz.prog 186 := ⟨⟨_, Tryz.underlying186⟩⟩
instance : ElT Tryz.prog 186 1 := ⟨⟨Tryz.t186, (.nilFunc : Value), by kernel_rfl, by kernel_rfl, by kernel_rfl, by kernel_rfl, by decide, by decide⟩⟩
instance : ZeroT Tryz.prog 186 (.nilFunc) := ⟨⟨Tryz.t186, by kernel_rfl, by kernel_rfl⟩⟩
instance : TySz Tryz.prog 187 false 1 := ⟨⟨Tryz.t187, _, by kernel_rfl, by kernel_rfl, Tryz.underlying187, by kernel_rfl⟩⟩
instance : HasT Tryz.prog 187 := ⟨⟨_, Tryz.underlying187⟩⟩
instance : ElT Tryz.prog 187 1 := ⟨⟨Tryz.t187, (.nilFunc : Value), by kernel_rfl, by kernel_rfl, by kernel_rfl, by kernel_rfl, by decide, by decide⟩⟩
instance : ZeroT Tryz.prog 187 (.nilFunc) := ⟨⟨Tryz.t187, by kernel_rfl, by kernel_rfl⟩⟩
instance : TySz Tryz.prog 188 false 1 := ⟨⟨Tryz.t188, _, by kernel_rfl, by kernel_rfl, Tryz.underlying188, by kernel_rfl⟩⟩
instance : IntT Tryz.prog 188 .u64 := ⟨Tryz.underlying188⟩
instance : HasT Tryz.prog 188 := ⟨⟨_, Tryz.underlying188⟩⟩
instance : ElT Tryz.prog 188 1 := ⟨⟨Tryz.t188, (.int .u64 0 : Value), by kernel_rfl, by kernel_rfl, by kernel_rfl, by kernel_rfl, by decide, by decide⟩⟩
instance : ZeroT Tryz.prog 188 (.int .u64 0) := ⟨⟨Tryz.t188, by kernel_rfl, by kernel_rfl⟩⟩
instance : TySz Tryz.prog 189 false 1 := ⟨⟨Tryz.t189, _, by kernel_rfl, by kernel_rfl, Tryz.underlying189, by kernel_rfl⟩⟩
instance : HasT Tryz.prog 189 := ⟨⟨_, Tryz.underlying189⟩⟩
instance : ElT Tryz.prog 189 1 := ⟨⟨Tryz.t189, (.nilFunc : Value), by kernel_rfl, by kernel_rfl, by kernel_rfl, by kernel_rfl, by decide, by decide⟩⟩
instance : ZeroT Tryz.prog 189 (.nilFunc) := ⟨⟨Tryz.t189, by kernel_rfl, by kernel_rfl⟩⟩
instance : TySz Tryz.prog 190 false 1 := ⟨⟨Tryz.t190, _, by kernel_rfl, by kernel_rfl, Tryz.underlying190, by kernel_rfl⟩⟩
instance : HasT Tryz.prog 190 := ⟨⟨_, Tryz.underlying190⟩⟩
instance : ElT Tryz.prog 190 1 := ⟨⟨Tryz.t190, (.nilFunc : Value), by kernel_rfl, by kernel_rfl, by kernel_rfl, by kernel_rfl, by decide, by decide⟩⟩
instance : ZeroT Tryz.prog 190 (.nilFunc) := ⟨⟨Tryz.t190, by kernel_rfl, by kernel_rfl⟩⟩
instance : TySz Tryz.prog 191 false 1 := ⟨⟨Tryz.t191, _, by kernel_rfl, by kernel_rfl, Tryz.underlying191, by kernel_rfl⟩⟩
instance : HasT Tryz.prog 191 := ⟨⟨_, Tryz.underlying191⟩⟩
instance : ElT Tryz.prog 191 1 := ⟨⟨Tryz.t191, (.nilFunc : Value), by kernel_rfl, by kernel_rfl, by kernel_rfl, by kernel_rfl, by decide, by decide⟩⟩
instance : ZeroT Tryz.prog 191 (.nilFunc) := ⟨⟨Tryz.t191, by kernel_rfl, by kernel_rfl⟩⟩
instance : TySz Tryz.prog 192 false 1 := ⟨⟨Tryz.t192, _, by kernel_rfl, by kernel_rfl, Tryz.underlying192, by kernel_rfl⟩⟩
instance : PtrT Tryz.prog 192 := ⟨⟨_, Tryz.t3, Tryz.underlying192, by kernel_rfl, by decide⟩⟩
instance : HasT Tryz.prog 192 := ⟨⟨_, Tryz.underlying192⟩⟩
instance : ElT Tryz.prog 192 1 := ⟨⟨Tryz.t192, (.pointer none : Value), by kernel_rfl, by kernel_rfl, by kernel_rfl, by kernel_rfl, by decide, by decide⟩⟩
instance : ZeroT Tryz.prog 192 (.pointer none) := ⟨⟨Tryz.t192, by kernel_rfl, by kernel_rfl⟩⟩
instance : TySz Tryz.prog 193 false 1 := ⟨⟨Tryz.t193, _, by kernel_rfl, by kernel_rfl, Tryz.underlying193, by kernel_rfl⟩⟩
instance : HasT Tryz.prog 193 := ⟨⟨_, Tryz.underlying193⟩⟩
instance : ElT Tryz.prog 193 1 := ⟨⟨Tryz.t193, (.nilFunc : Value), by kernel_rfl, by kernel_rfl, by kernel_rfl, by kernel_rfl, by decide, by decide⟩⟩
instance : ZeroT Tryz.prog 193 (.nilFunc) := ⟨⟨Tryz.t193, by kernel_rfl, by kernel_rfl⟩⟩
instance : TySz Tryz.prog 194 false 1 := ⟨⟨Tryz.t194, _, by kernel_rfl, by kernel_rfl, Tryz.underlying194, by kernel_rfl⟩⟩
instance : PtrT Tryz.prog 194 := ⟨⟨_, Tryz.t188, Tryz.underlying194, by kernel_rfl, by decide⟩⟩
instance : HasT Tryz.prog 194 := ⟨⟨_, Tryz.underlying194⟩⟩
instance : ElT Tryz.prog 194 1 := ⟨⟨Tryz.t194, (.pointer none : Value), by kernel_rfl, by kernel_rfl, by kernel_rfl, by kernel_rfl, by decide, by decide⟩⟩
instance : ZeroT Tryz.prog 194 (.pointer none) := ⟨⟨Tryz.t194, by kernel_rfl, by kernel_rfl⟩⟩
instance : TySz Tryz.prog 196 false 1 := ⟨⟨Tryz.t196, _, by kernel_rfl, by kernel_rfl, Tryz.underlying196, by kernel_rfl⟩⟩
instance : HasT Tryz.prog 196 := ⟨⟨_, Tryz.underlying196⟩⟩
instance : ElT Tryz.prog 196 1 := ⟨⟨Tryz.t196, (.nilFunc : Value), by kernel_rfl, by kernel_rfl, by kernel_rfl, by kernel_rfl, by decide, by decide⟩⟩
instance : ZeroT Tryz.prog 196 (.nilFunc) := ⟨⟨Tryz.t196, by kernel_rfl, by kernel_rfl⟩⟩
instance : TySz Tryz.prog 197 false 1 := ⟨⟨Tryz.t197, _, by kernel_rfl, by kernel_rfl, Tryz.underlying197, by kernel_rfl⟩⟩
instance : HasT Tryz.prog 197 := ⟨⟨_, Tryz.underlying197⟩⟩
instance : ElT Tryz.prog 197 1 := ⟨⟨Tryz.t197, (.nilFunc : Value), by kernel_rfl, by kernel_rfl, by kernel_rfl, by kernel_rfl, by decide, by decide⟩⟩
instance : ZeroT Tryz.prog 197 (.nilFunc) := ⟨⟨Tryz.t197, by kernel_rfl, by kernel_rfl⟩⟩
instance : TySz Tryz.prog 198 true 4 := ⟨⟨Tryz.t198, _, by kernel_rfl, by kernel_rfl, Tryz.underlying198, by kernel_rfl⟩⟩
instance : FOff Tryz.prog 198 0 0 := ⟨⟨_, _, Tryz.t17, Tryz.underlying198, rfl, rfl, by kernel_rfl, by decide⟩⟩
instance : FTy Tryz.prog 198 0 0 false 1 := ⟨⟨_, _, 17, Tryz.underlying198, rfl, rfl, by kernel_rfl, inferInstance⟩⟩
instance : FOff Tryz.prog 198 1 1 := ⟨⟨_, _, Tryz.t17, Tryz.underlying198, rfl, rfl, by kernel_rfl, by decide⟩⟩
instance : FTy Tryz.prog 198 1 1 false 1 := ⟨⟨_, _, 17, Tryz.underlying198, rfl, rfl, by kernel_rfl, inferInstance⟩⟩
instance : FOff Tryz.prog 198 2 2 := ⟨⟨_, _, Tryz.t17, Tryz.underlying198, rfl, rfl, by kernel_rfl, by decide⟩⟩
instance : FTy Tryz.prog 198 2 2 false 1 := ⟨⟨_, _, 17, Tryz.underlying198, rfl, rfl, by kernel_rfl, inferInstance⟩⟩
instance : FOff Tryz.prog 198 3 3 := ⟨⟨_, _, Tryz.t9, Tryz.underlying198, rfl, rfl, by kernel_rfl, by decide⟩⟩
instance : FTy Tryz.prog 198 3 3 false 1 := ⟨⟨_, _, 9, Tryz.underlying198, rfl, rfl, by kernel_rfl, inferInstance⟩⟩
instance : StructT Tryz.prog 198 := ⟨⟨_, Tryz.underlying198, by kernel_rfl⟩⟩
instance : HasT Tryz.prog 198 := ⟨⟨_, Tryz.underlying198⟩⟩
instance : ElT Tryz.prog 198 4 := ⟨⟨Tryz.t198, (.agg [.pointer none, .pointer none, .pointer none, .string ByteArray.empty].toArray : Value), by kernel_rfl, by kernel_rfl, by kernel_rfl, by kernel_rfl, by decide, by decide⟩⟩
instance : ZeroT Tryz.prog 198 (.agg [.pointer none, .pointer none, .pointer none, .string ByteArray.empty].toArray) := ⟨⟨Tryz.t198, by kernel_rfl, by kernel_rfl⟩⟩
instance : TySz Tryz.prog 199 true 4 := ⟨⟨Tryz.t199, _, by kernel_rfl, by kernel_rfl, Tryz.underlying199, by kernel_rfl⟩⟩
instance : FOff Tryz.prog 199 0 0 := ⟨⟨_, _, Tryz.t17, Tryz.underlying199, rfl, rfl, by kernel_rfl, by decide⟩⟩
instance : FTy Tryz.prog 199 0 0 false 1 := ⟨⟨_, _, 17, Tryz.underlying199, rfl, rfl, by kernel_rfl, inferInstance⟩⟩
instance : FOff Tryz.prog 199 1 1 := ⟨⟨_, _, Tryz.t17, Tryz.underlying199, rfl, rfl, by kernel_rfl, by decide⟩⟩
instance : FTy Tryz.prog 199 1 1 false 1 := ⟨⟨_, _, 17, Tryz.underlying199, rfl, rfl, by kernel_rfl, inferInstance⟩⟩
instance : FOff Tryz.prog 199 2 2 := ⟨⟨_, _, Tryz.t17, Tryz.underlying199, rfl, rfl, by kernel_rfl, by decide⟩⟩
instance : FTy Tryz.prog 199 2 2 false 1 := ⟨⟨_, _, 17, Tryz.underlying199, rfl, rfl, by kernel_rfl, inferInstance⟩⟩
instance : FOff Tryz.prog 199 3 3 := ⟨⟨_, _, Tryz.t9, Tryz.underlying199, rfl, rfl, by kernel_rfl, by decide⟩⟩
instance : FTy Tryz.prog 199 3 3 false 1 := ⟨⟨_, _, 9, Tryz.underlying199, rfl, rfl, by kernel_rfl, inferInstance⟩⟩
instance : StructT Tryz.prog 199 := ⟨⟨_, Tryz.underlying199, by kernel_rfl⟩⟩
instance : HasT Tryz.prog 199 := ⟨⟨_, Tryz.underlying199⟩⟩
instance : ElT Tryz.prog 199 4 := ⟨⟨Tryz.t199, (.agg [.pointer none, .pointer none, .pointer none, .string ByteArray.empty].toArray : Value), by kernel_rfl, by kernel_rfl, by kernel_rfl, by kernel_rfl, by decide, by decide⟩⟩
instance : ZeroT Tryz.prog 199 (.agg [.pointer none, .pointer none, .pointer none, .string ByteArray.empty].toArray) := ⟨⟨Tryz.t199, by kernel_rfl, by kernel_rfl⟩⟩
instance : TySz Tryz.prog 200 true 0 := ⟨⟨Tryz.t200, _, by kernel_rfl, by kernel_rfl, Tryz.underlying200, by kernel_rfl⟩⟩
instance : ArrT Tryz.prog 200 0 16 := ⟨Tryz.underlying200⟩
instance : HasT Tryz.prog 200 := ⟨⟨_, Tryz.underlying200⟩⟩
instance : ZeroT Tryz.prog 200 (.agg [].toArray) := ⟨⟨Tryz.t200, by kernel_rfl, by kernel_rfl⟩⟩
instance : TySz Tryz.prog 201 true 0 := ⟨⟨Tryz.t201, _, by kernel_rfl, by kernel_rfl, Tryz.underlying201, by kernel_rfl⟩⟩
instance : StructT Tryz.prog 201 := ⟨⟨_, Tryz.underlying201, by kernel_rfl⟩⟩
instance : HasT Tryz.prog 201 := ⟨⟨_, Tryz.underlying201⟩⟩
instance : ZeroT Tryz.prog 201 (.agg [].toArray) := ⟨⟨Tryz.t201, by kernel_rfl, by kernel_rfl⟩⟩
instance : TySz Tryz.prog 202 true 0 := ⟨⟨Tryz.t202, _, by kernel_rfl, by kernel_rfl, Tryz.underlying202, by kernel_rfl⟩⟩
instance : StructT Tryz.prog 202 := ⟨⟨_, Tryz.underlying202, by kernel_rfl⟩⟩
instance : HasT Tryz.prog 202 := ⟨⟨_, Tryz.underlying202⟩⟩
instance : ZeroT Tryz.prog 202 (.agg [].toArray) := ⟨⟨Tryz.t202, by kernel_rfl, by kernel_rfl⟩⟩
instance : TySz Tryz.prog 203 false 1 := ⟨⟨Tryz.t203, _, by kernel_rfl, by kernel_rfl, Tryz.underlying203, by kernel_rfl⟩⟩
instance : IntT Tryz.prog 203 .u8 := ⟨Tryz.underlying203⟩
instance : HasT Tryz.prog 203 := ⟨⟨_, Tryz.underlying203⟩⟩
instance : ElT Tryz.prog 203 1 := ⟨⟨Tryz.t203, (.int .u8 0 : Value), by kernel_rfl, by kernel_rfl, by kernel_rfl, by kernel_rfl, by decide, by decide⟩⟩
instance : ZeroT Tryz.prog 203 (.int .u8 0) := ⟨⟨Tryz.t203, by kernel_rfl, by kernel_rfl⟩⟩
instance : TySz Tryz.prog 204 false 1 := ⟨⟨Tryz.t204, _, by kernel_rfl, by kernel_rfl, Tryz.underlying204, by kernel_rfl⟩⟩
instance : IntT Tryz.prog 204 .u8 := ⟨Tryz.underlying204⟩
instance : HasT Tryz.prog 204 := ⟨⟨_, Tryz.underlying204⟩⟩
instance : ElT Tryz.prog 204 1 := ⟨⟨Tryz.t204, (.int .u8 0 : Value), by kernel_rfl, by kernel_rfl, by kernel_rfl, by kernel_rfl, by decide, by decide⟩⟩
instance : ZeroT Tryz.prog 204 (.int .u8 0) := ⟨⟨Tryz.t204, by kernel_rfl, by kernel_rfl⟩⟩
instance : TySz Tryz.prog 205 false 1 := ⟨⟨Tryz.t205, _, by kernel_rfl, by kernel_rfl, Tryz.underlying205, by kernel_rfl⟩⟩
instance : HasT Tryz.prog 205 := ⟨⟨_, Tryz.underlying205⟩⟩
instance : ElT Tryz.prog 205 1 := ⟨⟨Tryz.t205, (.nilFunc : Value), by kernel_rfl, by kernel_rfl, by kernel_rfl, by kernel_rfl, by decide, by decide⟩⟩
instance : ZeroT Tryz.prog 205 (.nilFunc) := ⟨⟨Tryz.t205, by kernel_rfl, by kernel_rfl⟩⟩
instance : TySz Tryz.prog 206 false 1 := ⟨⟨Tryz.t206, _, by kernel_rfl, by kernel_rfl, Tryz.underlying206, by kernel_rfl⟩⟩
instance : PtrT Tryz.prog 206 := ⟨⟨_, Tryz.t5, Tryz.underlying206, by kernel_rfl, by decide⟩⟩
instance : HasT Tryz.prog 206 := ⟨⟨_, Tryz.underlying206⟩⟩
instance : ElT Tryz.prog 206 1 := ⟨⟨Tryz.t206, (.pointer none : Value), by kernel_rfl, by kernel_rfl, by kernel_rfl, by kernel_rfl, by decide, by decide⟩⟩
instance : ZeroT Tryz.prog 206 (.pointer none) := ⟨⟨Tryz.t206, by kernel_rfl, by kernel_rfl⟩⟩
instance : TySz Tryz.prog 207 false 1 := ⟨⟨Tryz.t207, _, by kernel_rfl, by kernel_rfl, Tryz.underlying207, by kernel_rfl⟩⟩
instance : IntT Tryz.prog 207 .i32 := ⟨Tryz.underlying207⟩
instance : HasT Tryz.prog 207 := ⟨⟨_, Tryz.underlying207⟩⟩
instance : ElT Tryz.prog 207 1 := ⟨⟨Tryz.t207, (.int .i32 0 : Value), by kernel_rfl, by kernel_rfl, by kernel_rfl, by kernel_rfl, by decide, by decide⟩⟩
instance : ZeroT Tryz.prog 207 (.int .i32 0) := ⟨⟨Tryz.t207, by kernel_rfl, by kernel_rfl⟩⟩
instance : TySz Tryz.prog 208 false 1 := ⟨⟨Tryz.t208, _, by kernel_rfl, by kernel_rfl, Tryz.underlying208, by kernel_rfl⟩⟩
instance : IntT Tryz.prog 208 .i32 := ⟨Tryz.underlying208⟩
instance : HasT Tryz.prog 208 := ⟨⟨_, Tryz.underlying208⟩⟩
instance : ElT Tryz.prog 208 1 := ⟨⟨Tryz.t208, (.int .i32 0 : Value), by kernel_rfl, by kernel_rfl, by kernel_rfl, by kernel_rfl, by decide, by decide⟩⟩
instance : ZeroT Tryz.prog 208 (.int .i32 0) := ⟨⟨Tryz.t208, by kernel_rfl, by kernel_rfl⟩⟩
instance : TySz Tryz.prog 209 true 11 := ⟨⟨Tryz.t209, _, by kernel_rfl, by kernel_rfl, Tryz.underlying209, by kernel_rfl⟩⟩
instance : FOff Tryz.prog 209 0 0 := ⟨⟨_, _, Tryz.t12, Tryz.underlying209, rfl, rfl, by kernel_rfl, by decide⟩⟩
instance : FTy Tryz.prog 209 0 0 false 1 := ⟨⟨_, _, 12, Tryz.underlying209, rfl, rfl, by kernel_rfl, inferInstance⟩⟩
instance : FOff Tryz.prog 209 1 1 := ⟨⟨_, _, Tryz.t12, Tryz.underlying209, rfl, rfl, by kernel_rfl, by decide⟩⟩
instance : FTy Tryz.prog 209 1 1 false 1 := ⟨⟨_, _, 12, Tryz.underlying209, rfl, rfl, by kernel_rfl, inferInstance⟩⟩
instance : FOff Tryz.prog 209 2 2 := ⟨⟨_, _, Tryz.t184, Tryz.underlying209, rfl, rfl, by kernel_rfl, by decide⟩⟩
instance : FTy Tryz.prog 209 2 2 false 1 := ⟨⟨_, _, 184, Tryz.underlying209, rfl, rfl, by kernel_rfl, inferInstance⟩⟩
instance : FOff Tryz.prog 209 3 3 := ⟨⟨_, _, Tryz.t203, Tryz.underlying209, rfl, rfl, by kernel_rfl, by decide⟩⟩
instance : FTy Tryz.prog 209 3 3 false 1 := ⟨⟨_, _, 203, Tryz.underlying209, rfl, rfl, by kernel_rfl, inferInstance⟩⟩
instance : FOff Tryz.prog 209 4 4 := ⟨⟨_, _, Tryz.t5, Tryz.underlying209, rfl, rfl, by kernel_rfl, by decide⟩⟩
instance : FTy Tryz.prog 209 4 4 false 1 := ⟨⟨_, _, 5, Tryz.underlying209, rfl, rfl, by kernel_rfl, inferInstance⟩⟩
instance : FOff Tryz.prog 209 5 5 := ⟨⟨_, _, Tryz.t5, Tryz.underlying209, rfl, rfl, by kernel_rfl, by decide⟩⟩
instance : FTy Tryz.prog 209 5 5 false 1 := ⟨⟨_, _, 5, Tryz.underlying209, rfl, rfl, by kernel_rfl, inferInstance⟩⟩
instance : FOff Tryz.prog 209 6 6 := ⟨⟨_, _, Tryz.t204, Tryz.underlying209, rfl, rfl, by kernel_rfl, by decide⟩⟩
instance : FTy Tryz.prog 209 6 6 false 1 := ⟨⟨_, _, 204, Tryz.underlying209, rfl, rfl, by kernel_rfl, inferInstance⟩⟩
instance : FOff Tryz.prog 209 7 7 := ⟨⟨_, _, Tryz.t205, Tryz.underlying209, rfl, rfl, by kernel_rfl, by decide⟩⟩
instance : FTy Tryz.prog 209 7 7 false 1 := ⟨⟨_, _, 205, Tryz.underlying209, rfl, rfl, by kernel_rfl, inferInstance⟩⟩
instance : FOff Tryz.prog 209 8 8 := ⟨⟨_, _, Tryz.t206, Tryz.underlying209, rfl, rfl, by kernel_rfl, by decide⟩⟩
instance : FTy Tryz.prog 209 8 8 false 1 := ⟨⟨_, _, 206, Tryz.underlying209, rfl, rfl, by kernel_rfl, inferInstance⟩⟩
instance : FOff Tryz.prog 209 9 9 := ⟨⟨_, _, Tryz.t207, Tryz.underlying209, rfl, rfl, by kernel_rfl, by decide⟩⟩
instance : FTy Tryz.prog 209 9 9 false 1 := ⟨⟨_, _, 207, Tryz.underlying209, rfl, rfl, by kernel_rfl, inferInstance⟩⟩
instance : FOff Tryz.prog 209 10 10 := ⟨⟨_, _, Tryz.t208, Tryz.underlying209, rfl, rfl, by kernel_rfl, by decide⟩⟩
instance : FTy Tryz.prog 209 10 10 false 1 := ⟨⟨_, _, 208, Tryz.underlying209, rfl, rfl, by kernel_rfl, inferInstance⟩⟩
instance : StructT Tryz.prog 209 := ⟨⟨_, Tryz.underlying209, by kernel_rfl⟩⟩
instance : HasT Tryz.prog 209 := ⟨⟨_, Tryz.underlying209⟩⟩
instance : ElT Tryz.prog 209 11 := ⟨⟨Tryz.t209, (.agg [.int .u64 0, .int .u64 0, .int .u32 0, .int .u8 0, .int .u8 0, .int .u8 0, .int .u8 0, .nilFunc, .pointer none, .int .i32 0, .int .i32 0].toArray : Value), by kernel_rfl, by kernel_rfl, by kernel_rfl, by kernel_rfl, by decide, by decide⟩⟩
instance : ZeroT Tryz.prog 209 (.agg [.int .u64 0, .int .u64 0, .int .u32 0, .int .u8 0, .int .u8 0, .int .u8 0, .int .u8 0, .nilFunc, .pointer none, .int .i32 0, .int .i32 0].toArray) := ⟨⟨Tryz.t209, by kernel_rfl, by kernel_rfl⟩⟩
instance : TySz Tryz.prog 210 true 11 := ⟨⟨Tryz.t210, _, by kernel_rfl, by kernel_rfl, Tryz.underlying210, by kernel_rfl⟩⟩
instance : FOff Tryz.prog 210 0 0 := ⟨⟨_, _, Tryz.t12, Tryz.underlying210, rfl, rfl, by kernel_rfl, by decide⟩⟩
instance : FTy Tryz.prog 210 0 0 false 1 := ⟨⟨_, _, 12, Tryz.underlying210, rfl, rfl, by kernel_rfl, inferInstance⟩⟩
instance : FOff Tryz.prog 210 1 1 := ⟨⟨_, _, Tryz.t12, Tryz.underlying210, rfl, rfl, by kernel_rfl, by decide⟩⟩
instance : FTy Tryz.prog 210 1 1 false 1 := ⟨⟨_, _, 12, Tryz.underlying210, rfl, rfl, by kernel_rfl, inferInstance⟩⟩
instance : FOff Tryz.prog 210 2 2 := ⟨⟨_, _, Tryz.t184, Tryz.underlying210, rfl, rfl, by kernel_rfl, by decide⟩⟩
instance : FTy Tryz.prog 210 2 2 false 1 := ⟨⟨_, _, 184, Tryz.underlying210, rfl, rfl, by kernel_rfl, inferInstance⟩⟩
instance : FOff Tryz.prog 210 3 3 := ⟨⟨_, _, Tryz.t203, Tryz.underlying210, rfl, rfl, by kernel_rfl, by decide⟩⟩
instance : FTy Tryz.prog 210 3 3 false 1 := ⟨⟨_, _, 203, Tryz.underlying210, rfl, rfl, by kernel_rfl, inferInstance⟩⟩
instance : FOff Tryz.prog 210 4 4 := ⟨⟨_, _, Tryz.t5, Tryz.underlying210, rfl, rfl, by kernel_rfl, by decide⟩⟩
instance : FTy Tryz.prog 210 4 4 false 1 := ⟨⟨_, _, 5, Tryz.underlying210, rfl, rfl, by kernel_rfl, inferInstance⟩⟩
instance : FOff Tryz.prog 210 5 5 := ⟨⟨_, _, Tryz.t5, Tryz.underlying210, rfl, rfl, by kernel_rfl, by decide⟩⟩
instance : FTy Tryz.prog 210 5 5 false 1 := ⟨⟨_, _, 5, Tryz.underlying210, rfl, rfl, by kernel_rfl, inferInstance⟩⟩
instance : FOff Tryz.prog 210 6 6 := ⟨⟨_, _, Tryz.t204, Tryz.underlying210, rfl, rfl, by kernel_rfl, by decide⟩⟩
instance : FTy Tryz.prog 210 6 6 false 1 := ⟨⟨_, _, 204, Tryz.underlying210, rfl, rfl, by kernel_rfl, inferInstance⟩⟩
instance : FOff Tryz.prog 210 7 7 := ⟨⟨_, _, Tryz.t205, Tryz.underlying210, rfl, rfl, by kernel_rfl, by decide⟩⟩
instance : FTy Tryz.prog 210 7 7 false 1 := ⟨⟨_, _, 205, Tryz.underlying210, rfl, rfl, by kernel_rfl, inferInstance⟩⟩
instance : FOff Tryz.prog 210 8 8 := ⟨⟨_, _, Tryz.t206, Tryz.underlying210, rfl, rfl, by kernel_rfl, by decide⟩⟩
instance : FTy Tryz.prog 210 8 8 false 1 := ⟨⟨_, _, 206, Tryz.underlying210, rfl, rfl, by kernel_rfl, inferInstance⟩⟩
instance : FOff Tryz.prog 210 9 9 := ⟨⟨_, _, Tryz.t207, Tryz.underlying210, rfl, rfl, by kernel_rfl, by decide⟩⟩
instance : FTy Tryz.prog 210 9 9 false 1 := ⟨⟨_, _, 207, Tryz.underlying210, rfl, rfl, by kernel_rfl, inferInstance⟩⟩
instance : FOff Tryz.prog 210 10 10 := ⟨⟨_, _, Tryz.t208, Tryz.underlying210, rfl, rfl, by kernel_rfl, by decide⟩⟩
instance : FTy Tryz.prog 210 10 10 false 1 := ⟨⟨_, _, 208, Tryz.underlying210, rfl, rfl, by kernel_rfl, inferInstance⟩⟩
instance : StructT Tryz.prog 210 := ⟨⟨_, Tryz.underlying210, by kernel_rfl⟩⟩
instance : HasT Tryz.prog 210 := ⟨⟨_, Tryz.underlying210⟩⟩
instance : ElT Tryz.prog 210 11 := ⟨⟨Tryz.t210, (.agg [.int .u64 0, .int .u64 0, .int .u32 0, .int .u8 0, .int .u8 0, .int .u8 0, .int .u8 0, .nilFunc, .pointer none, .int .i32 0, .int .i32 0].toArray : Value), by kernel_rfl, by kernel_rfl, by kernel_rfl, by kernel_rfl, by decide, by decide⟩⟩
instance : ZeroT Tryz.prog 210 (.agg [.int .u64 0, .int .u64 0, .int .u32 0, .int .u8 0, .int .u8 0, .int .u8 0, .int .u8 0, .nilFunc, .pointer none, .int .i32 0, .int .i32 0].toArray) := ⟨⟨Tryz.t210, by kernel_rfl, by kernel_rfl⟩⟩
instance : CallF Tryz.prog 2 := ⟨Tryz.call2⟩
instance : CallF Tryz.prog 3 := ⟨Tryz.call3⟩
instance : CallF Tryz.prog 4 := ⟨Tryz.call4⟩
instance : CallF Tryz.prog 5 := ⟨Tryz.call5⟩
instance : CallF Tryz.prog 6 := ⟨Tryz.call6⟩
instance : CallF Tryz.prog 7 := ⟨Tryz.call7⟩
instance : CallF Tryz.prog 8 := ⟨Tryz.call8⟩
instance : CallF Tryz.prog 9 := ⟨Tryz.call9⟩
instance : CallF Tryz.prog 10 := ⟨Tryz.call10⟩
instance : CallF Tryz.prog 11 := ⟨Tryz.call11⟩
instance : CallF Tryz.prog 12 := ⟨Tryz.call12⟩
instance : CallF Tryz.prog 13 := ⟨Tryz.call13⟩
instance : CallF Tryz.prog 14 := ⟨Tryz.call14⟩
instance : CallF Tryz.prog 15 := ⟨Tryz.call15⟩
instance : CallF Tryz.prog 16 := ⟨Tryz.call16⟩
instance : CallF Tryz.prog 17 := ⟨Tryz.call17⟩
instance : CallF Tryz.prog 18 := ⟨Tryz.call18⟩
instance : CallF Tryz.prog 19 := ⟨Tryz.call19⟩
instance : CallF Tryz.prog 20 := ⟨Tryz.call20⟩
instance : CallF Tryz.prog 21 := ⟨Tryz.call21⟩
instance : CallF Tryz.prog 22 := ⟨Tryz.call22⟩
instance : CallF Tryz.prog 23 := ⟨Tryz.call23⟩
instance : CallF Tryz.prog 24 := ⟨Tryz.call24⟩
instance : CallF Tryz.prog 25 := ⟨Tryz.call25⟩
instance : CallF Tryz.prog 26 := ⟨Tryz.call26⟩
instance : CallF Tryz.prog 27 := ⟨Tryz.call27⟩
instance : CallF Tryz.prog 28 := ⟨Tryz.call28⟩
instance : CallF Tryz.prog 29 := ⟨Tryz.call29⟩
instance : CallF Tryz.prog 30 := ⟨Tryz.call30⟩
instance : CallF Tryz.prog 31 := ⟨Tryz.call31⟩
instance : CallF Tryz.prog 32 := ⟨Tryz.call32⟩
instance : CallF Tryz.prog 33 := ⟨Tryz.call33⟩
instance : CallF Tryz.prog 34 := ⟨Tryz.call34⟩
instance : CallF Tryz.prog 35 := ⟨Tryz.call35⟩
instance : CallF Tryz.prog 36 := ⟨Tryz.call36⟩
instance : CallF Tryz.prog 37 := ⟨Tryz.call37⟩
instance : CallF Tryz.prog 38 := ⟨Tryz.call38⟩
instance : CallF Tryz.prog 39 := ⟨Tryz.call39⟩
instance : CallF Tryz.prog 40 := ⟨Tryz.call40⟩
instance : CallF Tryz.prog 41 := ⟨Tryz.call41⟩
instance : CallF Tryz.prog 42 := ⟨Tryz.call42⟩
instance : CallF Tryz.prog 43 := ⟨Tryz.call43⟩
instance : CallF Tryz.prog 44 := ⟨Tryz.call44⟩
instance : CallF Tryz.prog 45 := ⟨Tryz.call45⟩
instance : CallF Tryz.prog 46 := ⟨Tryz.call46⟩
instance : CallF Tryz.prog 47 := ⟨Tryz.call47⟩
instance : CallF Tryz.prog 48 := ⟨Tryz.call48⟩
instance : CallF Tryz.prog 49 := ⟨Tryz.call49⟩
instance : CallF Tryz.prog 50 := ⟨Tryz.call50⟩
instance : CallF Tryz.prog 51 := ⟨Tryz.call51⟩
instance : CallF Tryz.prog 52 := ⟨Tryz.call52⟩
instance : CallF Tryz.prog 53 := ⟨Tryz.call53⟩
instance : CallF Tryz.prog 54 := ⟨Tryz.call54⟩
instance : CallF Tryz.prog 55 := ⟨Tryz.call55⟩
instance : CallF Tryz.prog 56 := ⟨Tryz.call56⟩
instance : CallF Tryz.prog 57 := ⟨Tryz.call57⟩
instance : CallF Tryz.prog 58 := ⟨Tryz.call58⟩
instance : CallF Tryz.prog 59 := ⟨Tryz.call59⟩
instance : CallF Tryz.prog 60 := ⟨Tryz.call60⟩
instance : CallF Tryz.prog 61 := ⟨Tryz.call61⟩
instance : CallF Tryz.prog 62 := ⟨Tryz.call62⟩
instance : CallF Tryz.prog 63 := ⟨Tryz.call63⟩
instance : CallF Tryz.prog 65 := ⟨Tryz.call65⟩
instance : CallF Tryz.prog 66 := ⟨Tryz.call66⟩
instance : CallF Tryz.prog 67 := ⟨Tryz.call67⟩
instance : CallF Tryz.prog 68 := ⟨Tryz.call68⟩
instance : CallF Tryz.prog 69 := ⟨Tryz.call69⟩
instance : CallF Tryz.prog 70 := ⟨Tryz.call70⟩
instance : CallF Tryz.prog 71 := ⟨Tryz.call71⟩
instance : CallF Tryz.prog 72 := ⟨Tryz.call72⟩
instance : CallF Tryz.prog 73 := ⟨Tryz.call73⟩
instance : CallF Tryz.prog 74 := ⟨Tryz.call74⟩
instance : CallF Tryz.prog 75 := ⟨Tryz.call75⟩
instance : CallF Tryz.prog 76 := ⟨Tryz.call76⟩
instance : CallF Tryz.prog 77 := ⟨Tryz.call77⟩
instance : CallF Tryz.prog 78 := ⟨Tryz.call78⟩
instance : CallF Tryz.prog 79 := ⟨Tryz.call79⟩
instance : CallF Tryz.prog 80 := ⟨Tryz.call80⟩
instance : CallF Tryz.prog 81 := ⟨Tryz.call81⟩
instance : CallF Tryz.prog 82 := ⟨Tryz.call82⟩
instance : CallF Tryz.prog 83 := ⟨Tryz.call83⟩
instance : CallF Tryz.prog 84 := ⟨Tryz.call84⟩
instance : CallF Tryz.prog 85 := ⟨Tryz.call85⟩
instance : CallF Tryz.prog 86 := ⟨Tryz.call86⟩
instance : CallF Tryz.prog 87 := ⟨Tryz.call87⟩
instance : CallF Tryz.prog 88 := ⟨Tryz.call88⟩
instance : CallF Tryz.prog 89 := ⟨Tryz.call89⟩
instance : CallF Tryz.prog 90 := ⟨Tryz.call90⟩
instance : CallF Tryz.prog 91 := ⟨Tryz.call91⟩
instance : CallF Tryz.prog 92 := ⟨Tryz.call92⟩
instance : CallF Tryz.prog 93 := ⟨Tryz.call93⟩
instance : CallF Tryz.prog 94 := ⟨Tryz.call94⟩
instance : CallF Tryz.prog 95 := ⟨Tryz.call95⟩
instance : CallF Tryz.prog 96 := ⟨Tryz.call96⟩
instance : CallF Tryz.prog 97 := ⟨Tryz.call97⟩
instance : CallF Tryz.prog 98 := ⟨Tryz.call98⟩
instance : CallF Tryz.prog 99 := ⟨Tryz.call99⟩
instance : CallF Tryz.prog 100 := ⟨Tryz.call100⟩
instance : CallF Tryz.prog 101 := ⟨Tryz.call101⟩
instance : CallF Tryz.prog 102 := ⟨Tryz.call102⟩
instance : CallF Tryz.prog 103 := ⟨Tryz.call103⟩
instance : CallF Tryz.prog 104 := ⟨Tryz.call104⟩
instance : CallF Tryz.prog 105 := ⟨Tryz.call105⟩
instance : CallF Tryz.prog 106 := ⟨Tryz.call106⟩
instance : CallF Tryz.prog 107 := ⟨Tryz.call107⟩
instance : CallF Tryz.prog 108 := ⟨Tryz.call108⟩
instance : CallF Tryz.prog 109 := ⟨Tryz.call109⟩
instance : CallF Tryz.prog 110 := ⟨Tryz.call110⟩
instance : CallF Tryz.prog 111 := ⟨Tryz.call111⟩
instance : CallF Tryz.prog 112 := ⟨Tryz.call112⟩
instance : CallF Tryz.prog 113 := ⟨Tryz.call113⟩
instance : CallF Tryz.prog 114 := ⟨Tryz.call114⟩
instance : CallF Tryz.prog 115 := ⟨Tryz.call115⟩
instance : CallF Tryz.prog 116 := ⟨Tryz.call116⟩
instance : CallF Tryz.prog 117 := ⟨Tryz.call117⟩
instance : CallF Tryz.prog 118 := ⟨Tryz.call118⟩
instance : CallF Tryz.prog 119 := ⟨Tryz.call119⟩
instance : CallF Tryz.prog 120 := ⟨Tryz.call120⟩
instance : CallF Tryz.prog 121 := ⟨Tryz.call121⟩
instance : CallF Tryz.prog 122 := ⟨Tryz.call122⟩
instance : CallF Tryz.prog 123 := ⟨Tryz.call123⟩
instance : CallF Tryz.prog 124 := ⟨Tryz.call124⟩
instance : CallF Tryz.prog 125 := ⟨Tryz.call125⟩
instance : CallF Tryz.prog 126 := ⟨Tryz.call126⟩
instance : CallF Tryz.prog 127 := ⟨Tryz.call127⟩
instance : CallF Tryz.prog 128 := ⟨Tryz.call128⟩
instance : CallF Tryz.prog 129 := ⟨Tryz.call129⟩
instance : CallF Tryz.prog 130 := ⟨Tryz.call130⟩
instance : CallF Tryz.prog 131 := ⟨Tryz.call131⟩
end Go.Sl

/-
  What lies in memory: members, dimensions, spans.
-/
namespace Go.Sl
structure Nd where
  name : ByteArray
  up : Int
deriving Inhabited
@[reducible] def encNd (x : Nd) : List Value := [.string x.name, vI x.up]
structure Sp where
  fr : Int
  to : Int
deriving Inhabited
@[reducible] def encSp (x : Sp) : List Value := [vI x.fr, vI x.to]
/-- A dimension: its name, its members as they lie, its members. -/
structure Dm where
  name : ByteArray
  nv : Value
  hv : nv.oneCell' = true
  nodes : List Nd
instance : Inhabited Dm := ⟨⟨ByteArray.empty, .slice none 0 0, rfl, []⟩⟩
@[reducible] def encDm (x : Dm) : List Value := [.string x.name, x.nv]
instance : EncOne encNd := ⟨fun y u hu => by simp at hu; rcases hu with rfl | rfl <;> rfl⟩
instance : EncOne encSp := ⟨fun y u hu => by simp at hu; rcases hu with rfl | rfl <;> rfl⟩
instance : EncOne encDm := ⟨fun y u hu => by
  simp at hu
  rcases hu with rfl | rfl
  · rfl
  · exact y.hv⟩
instance {s : ByteArray} {n : Int} : Mk encNd [.string s, vI n] ⟨s, n⟩ := ⟨rfl⟩
instance {m n : Int} : Mk encSp [vI m, vI n] ⟨m, n⟩ := ⟨rfl⟩
end Go.Sl

/-
  Regions that draw their order and hold several hard operations, some of them guarded: all orders are walked.
-/
namespace Go.Sl
set_option linter.unusedVariables false
set_option linter.unusedSimpArgs false
section
variable {P : Program} {N : NN} {k : List It} {Q : Post} {e : Env} {h h0 : PHeap} {L V M : List HP} {ops : List Oper} {fuel : Nat} {li : Array Bool}
/-- More is frozen, step by step. -/
class LeT (h h' : PHeap) : Prop where
  le : Hle h h'
instance (priority := high) {h : PHeap} : LeT h h := ⟨Hle.refl h⟩
instance {h a b : PHeap} [l : Le a b] [t : LeT h a] : LeT h b := ⟨t.le.trans l.le⟩
/-- Is an operation wanted? -/
class GuardIs (ops : List Oper) (e : Env) (g : Option (Nat × Bool)) (b : outParam Bool) : Prop where
  eq : ∀ N a (o : Oper), o.guard = g → AE N e a → Region.wanted o (yielded ops.toArray a.tmps) = b
instance : GuardIs ops e none true := ⟨fun N a o ho _ => by unfold Region.wanted; rw [ho]⟩
theorem guard_eq {j t : Nat} {b want : Bool} {a : Act} {o : Oper} (ho : o.guard = some (j, want)) (hd : dstAt ops j = some t) (hv : lk e t = some (.bool b)) (s : AE N e a) : Region.wanted o (yielded ops.toArray a.tmps) = (b == want) := by
  obtain ⟨d, op, ty, pos, af, g⟩ := o
  subst ho
  exact guard_is hd hv s
theorem guard_eq_un {j t : Nat} {want : Bool} {a : Act} {o : Oper} (ho : o.guard = some (j, want)) (hd : dstAt ops j = some t) (hv : lk e t = some undef) (s : AE N e a) : Region.wanted o (yielded ops.toArray a.tmps) = false := by
  obtain ⟨d, op, ty, pos, af, g⟩ := o
  subst ho
  exact guard_un hd hv s
instance {j t : Nat} [hd : Is (dstAt ops j) (some t)] [hv : Is (lk e t) (some (.bool true))] : GuardIs ops e (some (j, true)) true := ⟨fun N a o ho s => guard_eq ho hd.eq hv.eq s⟩
instance {j t : Nat} [hd : Is (dstAt ops j) (some t)] [hv : Is (lk e t) (some (.bool false))] : GuardIs ops e (some (j, false)) true := ⟨fun N a o ho s => guard_eq ho hd.eq hv.eq s⟩
instance {j t : Nat} [hd : Is (dstAt ops j) (some t)] [hv : Is (lk e t) (some (.bool true))] : GuardIs ops e (some (j, false)) false := ⟨fun N a o ho s => guard_eq ho hd.eq hv.eq s⟩
instance {j t : Nat} [hd : Is (dstAt ops j) (some t)] [hv : Is (lk e t) (some (.bool false))] : GuardIs ops e (some (j, true)) false := ⟨fun N a o ho s => guard_eq ho hd.eq hv.eq s⟩
instance {j t : Nat} {b : Bool} [hd : Is (dstAt ops j) (some t)] [hv : Is (lk e t) (some undef)] : GuardIs ops e (some (j, b)) false := ⟨fun N a o ho s => guard_eq_un ho hd.eq hv.eq s⟩
/-! ### A plan of all orders -/
inductive Sch where
  | e
  | s (m : Nat) (r : Sch)
  | h (j : Nat) (r alt : Sch)
  | n
def Sch.alts : Sch → List Nat
  | .h j _ alt => j :: alt.alts
  | _ => []
def Sch.depth : Sch → Nat
  | .e => 0
  | .s _ r => r.depth + 1
  | .h _ r alt => max (r.depth + 1) alt.depth
  | .n => 0
def schOK (ops : Array Oper) (li : Array Bool) (top : Bool) : Sch → Bool
  | .e => top && (Region.ready .any ops li).isEmpty
  | .s m r => top && nextSoft ops li == some m && schOK ops (li.setIfInBounds m true) true r
  | .h j r alt => (!top || ((nextSoft ops li).isNone && !(Region.ready .any ops li).isEmpty && (Region.ready .any ops li).all ((Sch.h j r alt).alts.contains ·))) && schOK ops (li.setIfInBounds j true) true r && schOK ops li false alt
  | .n => !top
/-- What is left of the plan. -/
def GT (P : Program) (N : NN) (ops : List Oper) (V : List HP) (h0 : PHeap) (sch : Sch) (k : List It) (Q : Post) (e : Env) (h : PHeap) (L : List HP) : Prop :=
  Hle h0 h → (∃ w, Cw V h0 w) → ∀ a w, AS N e h L a w → ∀ li fuel, schOK ops.toArray li true sch = true → sch.depth ≤ fuel → wpSched P ops.toArray (Cw V h0) (needs ops.toArray) (fun a w => cQ N.ro P k Q .normal a w) fuel li a w
def GTa (P : Program) (N : NN) (ops : List Oper) (V : List HP) (h0 : PHeap) (sch : Sch) (k : List It) (Q : Post) (e : Env) (h : PHeap) (L : List HP) : Prop :=
  Hle h0 h → (∃ w, Cw V h0 w) → ∀ a w, AS N e h L a w → ∀ li fuel, schOK ops.toArray li false sch = true → sch.depth ≤ fuel + 1 → ∀ j ∈ sch.alts, ∃ o, ops.toArray[j]? = some o ∧
    hardOp P ops.toArray o (fun a' w' => (needs ops.toArray j = true → Cw V h0 w') ∧ wpSched P ops.toArray (Cw V h0) (needs ops.toArray) (fun a w => cQ N.ro P k Q .normal a w) fuel (li.setIfInBounds j true) a' w') a w
/-- Operation m comes next: it is soft; it is to be done, or not. -/
def GTn (P : Program) (N : NN) (ops : List Oper) (V : List HP) (h0 : PHeap) (o : Oper) (r : Sch) (k : List It) (Q : Post) (e : Env) (h : PHeap) (L : List HP) : Prop :=
  Hle h0 h → (∃ w, Cw V h0 w) → ∀ a w, AS N e h L a w → ∃ v e', Yc P ops.toArray (Cw V h0) o v a ∧ AE N e' (a.put o.dst v) ∧ GT P N ops V h0 r k Q e' h L
/-- A hard operation. -/
def GTo (P : Program) (N : NN) (ops : List Oper) (V : List HP) (h0 : PHeap) (o : Oper) (r : Sch) (k : List It) (Q : Post) (e : Env) (h : PHeap) (L : List HP) : Prop :=
  ∀ a w, AE N e a → St h L w → hardOp P ops.toArray o (fun a' w' => ∃ e' h' L', AE N e' a' ∧ Hle h h' ∧ St h' L' w' ∧ Sub L' V ∧ GT P N ops V h0 r k Q e' h' L') a w
structure Both (p q : Prop) : Prop where
  fst : p
  snd : q
theorem GDraw_sch {id : Nat} (sch : Sch) [hm : Mixed P] (hok : (manyOK ops.toArray && schOK ops.toArray (Array.replicate ops.length false) true sch && decide (sch.depth ≤ ops.length)) = true) (g : GT P N ops L h sch k Q e h L) : GDraw P N id ops k Q e h L := by
  simp only [Bool.and_eq_true, decide_eq_true_eq] at hok
  obtain ⟨⟨h1, h2⟩, h3⟩ := hok
  exact GDraw_many h1 fun hl hc a w s => g hl hc a w s _ _ h2 h3
theorem GDraw_schV {id : Nat} (V : List HP) {Z : List HP} (sch : Sch) [hm : Mixed P] (hp : L.Perm (V ++ Z)) (hok : (manyOK ops.toArray && schOK ops.toArray (Array.replicate ops.length false) true sch && decide (sch.depth ≤ ops.length)) = true) (g : GT P N ops V h sch k Q e h L) : GDraw P N id ops k Q e h L := by
  simp only [Bool.and_eq_true, decide_eq_true_eq] at hok
  obtain ⟨⟨h1, h2⟩, h3⟩ := hok
  intro a w s
  have hs : St h L { w with drawn := w.drawn + 1 } := s.st.heap rfl
  have hc : Cw V h { w with drawn := w.drawn + 1 } := Cw.of hp hs
  exact wp_many (C := Cw V h) hm.eq h1 hc (g (Hle.refl h) ⟨_, hc⟩ a _ (s.ae.as hs) _ _ (by simpa using h2) (by simpa using h3))
instance gt_e : Step (GT P N ops V h0 .e k Q e h L) (X P N .normal k Q e h L) := ⟨fun g hl hc a w s li fuel h1 _ => by
  simp only [schOK, Bool.true_and, List.isEmpty_iff] at h1
  cases fuel with
  | zero => exact ⟨h1, g a w s⟩
  | succ fuel =>
    unfold wpSched
    have : nextSoft ops.toArray li = none := by simp [nextSoft, h1]
    simp only [this, h1]
    exact ⟨fun _ => g a w s, fun j hj => (by cases hj)⟩⟩
instance gt_s {m : Nat} {r : Sch} {o : Oper} [ho : Is (atL ops m) (some o)] : Step (GT P N ops V h0 (.s m r) k Q e h L) (GTn P N ops V h0 o r k Q e h L) := ⟨fun g hl hc a w s li fuel h1 h2 => by
  simp only [schOK, Bool.true_and, Bool.and_eq_true, beq_iff_eq] at h1
  simp only [Sch.depth] at h2
  obtain ⟨fuel, rfl⟩ : ∃ f, fuel = f + 1 := ⟨fuel - 1, by omega⟩
  unfold wpSched
  simp only [h1.1]
  obtain ⟨v, e', h3, h4, h5⟩ := g hl hc a w s
  exact ⟨_, v, by have := ho.eq; rw [atL_eq] at this; simpa using this, h3, h5 hl hc _ w (h4.as s.st) _ _ h1.2 (by omega)⟩⟩
instance gt_h {j : Nat} {r alt : Sch} {o : Oper} [ho : Is (atL ops j) (some o)] : Step (GT P N ops V h0 (.h j r alt) k Q e h L) (Both (GTo P N ops V h0 o r k Q e h L) (GTa P N ops V h0 alt k Q e h L)) := ⟨fun g hl hc a w s li fuel h1 h2 => by
  simp only [schOK, Bool.not_true, Bool.false_or, Bool.and_eq_true, Option.isNone_iff_eq_none, Bool.not_eq_true'] at h1
  obtain ⟨⟨⟨⟨h3, h4⟩, h5⟩, h6⟩, h7⟩ := h1
  simp only [Sch.depth] at h2
  obtain ⟨fuel, rfl⟩ : ∃ f, fuel = f + 1 := ⟨fuel - 1, by omega⟩
  unfold wpSched
  simp only [h3]
  refine ⟨fun h => (by rw [h] at h4; cases h4), fun i hi => ?_⟩
  have hm := List.all_eq_true.1 h5 i hi
  simp only [Sch.alts, List.contains_cons, Bool.or_eq_true, beq_iff_eq] at hm
  rcases hm with rfl | hm
  · refine ⟨o, by have := ho.eq; rw [atL_eq] at this; simpa using this, hardOp_mono (fun u w' hk => ?_) (g.fst a w s.ae s.st)⟩
    obtain ⟨e', h', L', k1, k2, k3, k4, k5⟩ := hk
    refine ⟨fun _ => ?_, k5 (hl.trans k2) hc _ w' (k1.as k3) _ _ h6 (by omega)⟩
    obtain ⟨Z, hz⟩ := k4.eq
    exact ⟨Z, _, hl.trans k2, k3.perm hz⟩
  · exact g.snd hl hc a w s li fuel h7 (by omega) i (by simpa using hm)⟩
instance gta_n : Step (GTa P N ops V h0 .n k Q e h L) True := ⟨fun _ hl hc a w s li fuel _ _ j hj => by cases hj⟩
instance gta_h {j : Nat} {r alt : Sch} {o : Oper} [ho : Is (atL ops j) (some o)] : Step (GTa P N ops V h0 (.h j r alt) k Q e h L) (Both (GTo P N ops V h0 o r k Q e h L) (GTa P N ops V h0 alt k Q e h L)) := ⟨fun g hl hc a w s li fuel h1 h2 i hi => by
  simp only [schOK, Bool.not_false, Bool.true_or, Bool.true_and, Bool.and_eq_true] at h1
  simp only [Sch.depth] at h2
  rcases List.mem_cons.1 hi with rfl | hi
  · refine ⟨o, by have := ho.eq; rw [atL_eq] at this; simpa using this, hardOp_mono (fun u w' hk => ?_) (g.fst a w s.ae s.st)⟩
    obtain ⟨e', h', L', k1, k2, k3, k4, k5⟩ := hk
    refine ⟨fun _ => ?_, k5 (hl.trans k2) hc _ w' (k1.as k3) _ _ h1.1 (by omega)⟩
    obtain ⟨Z, hz⟩ := k4.eq
    exact ⟨Z, _, hl.trans k2, k3.perm hz⟩
  · exact g.snd hl hc a w s li fuel h1.2 (by omega) i hi⟩
instance gtn_soft {d : Nat} {op : Op} {ty : TypeId} {pos : String} {af : Array Edge} {g : Option (Nat × Bool)} {r : Sch} {s : Prop} {v : Value} [hg : GuardIs ops e g true] [hs : Soft P N V h0 e op s v] [hN : InN N d] :
    Step (GTn P N ops V h0 ⟨some d, op, ty, pos, af, g⟩ r k Q e h L) (Side s (GT P N ops V h0 r k Q ((d, v) :: e) h L)) :=
  ⟨fun hk hl hc a w se => ⟨v, _, .inl ⟨hg.eq N a _ rfl se.ae, fun w' hw' => hs.run hk.side hc (some d) ty pos af g a w' se.ae hw'⟩, se.ae.put hN.eq, hk.rest⟩⟩
instance gtn_skip {d : Nat} {op : Op} {ty : TypeId} {pos : String} {af : Array Edge} {g : Option (Nat × Bool)} {r : Sch} [hg : GuardIs ops e g false] [hN : InN N d] :
    Step (GTn P N ops V h0 ⟨some d, op, ty, pos, af, g⟩ r k Q e h L) (GT P N ops V h0 r k Q ((d, undef) :: e) h L) :=
  ⟨fun hk hl hc a w se => ⟨undef, _, .inr ⟨hg.eq N a _ rfl se.ae, rfl⟩, se.ae.put hN.eq, hk⟩⟩
instance gto_skip {d : Nat} {op : Op} {ty : TypeId} {pos : String} {af : Array Edge} {g : Option (Nat × Bool)} {r : Sch} [hg : GuardIs ops e g false] [hN : InN N d] [hs : Sub L V] :
    Step (GTo P N ops V h0 ⟨some d, op, ty, pos, af, g⟩ r k Q e h L) (GT P N ops V h0 r k Q ((d, undef) :: e) h L) :=
  ⟨fun hk a w se st => by
    unfold hardOp
    rw [if_neg (by rw [hg.eq N a _ rfl se]; simp)]
    exact ⟨_, h, L, se.put hN.eq, Hle.refl h, st, hs, hk⟩⟩
theorem GTo_do {o : Oper} {r : Sch} [hg : GuardIs ops e o.guard true] (hh : HardS P N o e h L (fun e' h' L' => Sub L' V ∧ GT P N ops V h0 r k Q e' h' L')) : GTo P N ops V h0 o r k Q e h L := fun a w se st => by
  unfold hardOp
  rw [if_pos (hg.eq N a _ rfl se)]
  obtain ⟨h1, h2⟩ := hh a w se st
  refine ⟨Oper.wp_mono (fun a' w' hk => ?_) h1, h2⟩
  obtain ⟨e', h', L', k1, k2, k3, k4⟩ := hk
  exact ⟨e', h', L', k1, k2, k3, k4⟩
theorem GT_app {d : Option Nat} {v : Value} {r : Sch} {X M LL : List HP} [ha : AppL X M LL] (hs : Sub LL V) (g : GT P N ops V h0 r k Q (putR d v e) h LL) : Sub (X ++ M) V ∧ GT P N ops V h0 r k Q (putR d v e) h (X ++ M) := by
  rw [ha.eq]; exact ⟨hs, g⟩
/-! ### Tests whose outcome is known -/
class Known (p : Prop) : Prop where
  yes : p
instance guard_known {j t : Nat} {p : Prop} [Decidable p] [hp : Known p] [hd : Is (dstAt ops j) (some t)] [hv : Is (lk e t) (some (.bool (decide p)))] : GuardIs ops e (some (j, true)) true := ⟨fun N a o ho s => guard_eq (b := true) ho hd.eq (by rw [hv.eq]; simp [hp.yes]) s⟩
instance guard_known' {j t : Nat} {p : Prop} [Decidable p] [hp : Known p] [hd : Is (dstAt ops j) (some t)] [hv : Is (lk e t) (some (.bool (decide p)))] : GuardIs ops e (some (j, false)) false := ⟨fun N a o ho s => guard_eq (b := true) ho hd.eq (by rw [hv.eq]; simp [hp.yes]) s⟩
instance pick_known {c x y : Operand} {v : Value} {p : Prop} [Decidable p] [hp : Known p] [hc : Is (lkO e c) (some (.bool (decide p)))] [hx : Is (lkO e x) (some v)] : Soft P N V h e (.pick c x y) True v := ⟨fun _ _ d ty pos af g a w s _ => by
  have h1 := s.eval hc.eq
  rw [decide_eq_true hp.yes] at h1
  simp [execOp, h1, s.eval hx.eq, asBool]⟩
instance {α : Type} {n : α} : Known (n = n) := ⟨rfl⟩
section
variable {d : Option Tmp} {op : Op} {ty : TypeId} {pos : String} {af : Array Edge} {j t i : Nat} {p : Prop} [Decidable p] {l : List Oper}
instance go_known [hp : Known p] [hd : Is (dstAt ops j) (some t)] [hv : Is (lk e t) (some (.bool (decide p)))] : Step (GO P N ops (⟨d, op, ty, pos, af, some (j, true)⟩ :: l) k Q e h L) (GO1 P N ops ⟨d, op, ty, pos, af, some (j, true)⟩ l k Q e h L) :=
  ⟨GO_of_GO1 fun a s => by rw [guard_is (b := true) hd.eq (by rw [hv.eq]; simp [hp.yes]) s]; rfl⟩
instance gd_known [hp : Known p] [hd : Is (dstAt ops j) (some t)] [hv : Is (lk e t) (some (.bool (decide p)))] : Step (GD P N ops V h0 i (⟨d, op, ty, pos, af, some (j, true)⟩ :: l) k Q e h L) (GD1 P N ops V h0 i ⟨d, op, ty, pos, af, some (j, true)⟩ l k Q e h L) :=
  ⟨GD_of_GD1 fun a s => by rw [guard_is (b := true) hd.eq (by rw [hv.eq]; simp [hp.yes]) s]; rfl⟩
instance cond_known {x y : Code} [hp : Known p] [hv : Is (lk e t) (some (.bool (decide p)))] : Step (G P N (.cond (.tmp t) x y) k Q e h L) (G P N x k Q e h L) :=
  ⟨fun g a w s => wpIn_cond_true (by rw [s.ae.eval (x := .tmp t) hv.eq]; simp [hp.yes]) (g a w s)⟩
end
/-! ### Regions of many operations, written in two parts -/
class AppO (a b : List Oper) (c : outParam (List Oper)) : Prop where
  eq : a.append b = c
instance {b : List Oper} : AppO [] b b := ⟨rfl⟩
instance {x : Oper} {a b c : List Oper} [r : AppO a b c] : AppO (x :: a) b (x :: c) := ⟨by show x :: a.append b = x :: c; rw [r.eq]⟩
instance (priority := high) step_region2 {id : Nat} {a b l : List Oper} [r : AppO a b l] : Step (G P N (.region id (a.append b).toArray false) k Q e h L) (GO P N l l k Q e h L) := ⟨fun g => by rw [r.eq]; exact fun a w s => wpIn_region_lit (g a w s)⟩
instance (priority := high) step_draw2 {id : Nat} {a b l : List Oper} [r : AppO a b l] : Step (G P N (.region id (a.append b).toArray true) k Q e h L) (GDraw P N id l k Q e h L) := ⟨fun g => by rw [r.eq]; exact g⟩
/-! ### Slices written out, as lists -/
class EncT (P : Program) (el : TypeId) {α : outParam Type} (enc : outParam (α → List Value)) (k : outParam Nat) : Prop where
  one : EncOne enc
section
variable {d : Nat} {ty : TypeId} {pos : String} {af : Array Edge} {g : Option (Nat × Bool)} {C : Env → PHeap → List HP → Prop}
theorem hard_buildO {t el n sz : Nat} {agg : Bool} {z : Value} {ps : List (Nat × Operand)} {zs cs0 cs : List Value} {α : Type} {enc : α → List Value} {kk : Nat} {ys : List α} [ht : SliT P t el] [he : EncT P el enc kk] [hs : TySz P el agg sz] [hz : ZeroT P el z] [hzc : CellsOf L h z zs] [hl : LenN zs sz] [hr : RepN n zs cs0] [hf : Fill P L h e (fun i => some (i * sz, sz)) ps cs0 cs] [hd : Dec enc kk cs ys] [hy : LenL ys n] [hN : InN N d]
    (hsz : 0 < n * sz ∧ n * sz ≤ 16777216) (hk : ∀ b, C ((d, .slice (some ⟨b, 0, none⟩) n n) :: e) h (slo enc kk (.slice (some ⟨b, 0, none⟩) n n) ys :: L)) : HardS P N ⟨some d, .buildSlice t n ps.toArray, ty, pos, af, g⟩ e h L C := by
  intro a w s st
  have := hard_buildSlice (P := P) (N := N) (d := d) (ty := ty) (pos := pos) (af := af) (g := g) (t := t) (n := n) (ps := ps) (L := L) (e := e) (h := h) (C := fun e' h' L' => ∃ b, e' = (d, .slice (some ⟨b, 0, none⟩) n n) :: e ∧ h' = h ∧ L' = blk b (.cells cs.toArray el (0, 0)) :: L) hsz (fun b => ⟨b, rfl, rfl, rfl⟩) a w s st
  refine ⟨Oper.wp_mono (fun a' w' hq => ?_) this.1, this.2⟩
  obtain ⟨e', h', L', h1, h2, h3, b, rfl, rfl, rfl⟩ := hq
  refine ⟨_, h', slo enc kk (.slice (some ⟨b, 0, none⟩) n n) ys :: L, h1, h2, ?_, hk b⟩
  have ho := he.one
  have := own_st (L := blk b (.cells cs.toArray el (0, 0)) :: L) (enc := enc) (kk := kk) (ys := ys) (R := L) ⟨.refl _⟩ hd ho h3
  rw [hy.eq] at this
  exact this
end
theorem hard_callP {C : Env → PHeap → List HP → Prop} {d : Option Nat} {ty : TypeId} {pos : String} {af : Array Edge} {g : Option (Nat × Bool)} {n : FuncId} {f : Operand} {xs : List Operand} {ts : Array TypeId} {vs : List Value} {s : Prop} {v : Value} [hf : Is (lkO e f) (some (.func (.func n) #[] #[]))] [ha : ArgsOf e xs vs] [hcf : CallF P n] [hc : CallV P n vs h s v] [hd : DstOk N d]
    (hs : s) (hT : C (putR d v e) h ([] ++ L)) : HardS P N ⟨d, .call { callee := .value f, args := xs.toArray, argTypes := ts }, ty, pos, af, g⟩ e h L C :=
  hard_call (M := L) (Lp := []) hf.eq (ha.eq N) hcf hd (.refl _) (hc.spec hs) hT
end
end Go.Sl
