/-
  Facts that the proof is made of (Y).
-/
import Derived.Test.YtoekdnandjjeoaaGreatKL3
import Derived.Test.YtoekdnandjjeoaaGreatProg
import Derived.KernelRfl
/-
  Facts on the types and the functions of the translation, printed by a program of ours.
-/
namespace Go.Sl
open Go.Proofs
instance : Mixed Tryz.prog := ⟨by kernel_rfl⟩
instance : TySz Tryz.prog 2 false 1 := ⟨⟨Tryz.t2, _, by kernel_rfl, by kernel_rfl, Tryz.underlying2, by kernel_rfl⟩⟩
instance : IntT Tryz.prog 2 .i64 := ⟨Tryz.underlying2⟩
instance : HasT Tryz.prog 2 := ⟨⟨_, Tryz.underlying2⟩⟩
instance : ElT Tryz.prog 2 1 := ⟨⟨Tryz.t2, (.int .i64 0 : Value), by kernel_rfl, by kernel_rfl, by kernel_rfl, by kernel_rfl, by decide, by decide⟩⟩
instance : ZeroT Tryz.prog 2 (.int .i64 0) := ⟨⟨Tryz.t2, by kernel_rfl, by kernel_rfl⟩⟩
instance : TySz Tryz.prog 3 false 1 := ⟨⟨Tryz.t3, _, by kernel_rfl, by kernel_rfl, Tryz.underlying3, by kernel_rfl⟩⟩
instance : IntT Tryz.prog 3 .i64 := ⟨Tryz.underlying3⟩
instance : HasT Tryz.prog 3 := ⟨⟨_, Tryz.underlying3⟩⟩
instance : ElT Tryz.prog 3 1 := ⟨⟨Tryz.t3, (.int .i64 0 : Value), by kernel_rfl, by kernel_rfl, by kernel_rfl, by kernel_rfl, by decide, by decide⟩⟩
instance : ZeroT Tryz.prog 3 (.int .i64 0) := ⟨⟨Tryz.t3, by kernel_rfl, by kernel_rfl⟩⟩
instance : TySz Tryz.prog 4 false 1 := ⟨⟨Tryz.t4, _, by kernel_rfl, by kernel_rfl, Tryz.underlying4, by kernel_rfl⟩⟩
instance : BoolT Tryz.prog 4 := ⟨Tryz.underlying4⟩
instance : HasT Tryz.prog 4 := ⟨⟨_, Tryz.underlying4⟩⟩
instance : ElT Tryz.prog 4 1 := ⟨⟨Tryz.t4, (.bool false : Value), by kernel_rfl, by kernel_rfl, by kernel_rfl, by kernel_rfl, by decide, by decide⟩⟩
instance : ZeroT Tryz.prog 4 (.bool false) := ⟨⟨Tryz.t4, by kernel_rfl, by kernel_rfl⟩⟩
instance : TySz Tryz.prog 5 false 1 := ⟨⟨Tryz.t5, _, by kernel_rfl, by kernel_rfl, Tryz.underlying5, by kernel_rfl⟩⟩
instance : IntT Tryz.prog 5 .u8 := ⟨Tryz.underlying5⟩
instance : HasT Tryz.prog 5 := ⟨⟨_, Tryz.underlying5⟩⟩
instance : ElT Tryz.prog 5 1 := ⟨⟨Tryz.t5, (.int .u8 0 : Value), by kernel_rfl, by kernel_rfl, by kernel_rfl, by kernel_rfl, by decide, by decide⟩⟩
instance : ZeroT Tryz.prog 5 (.int .u8 0) := ⟨⟨Tryz.t5, by kernel_rfl, by kernel_rfl⟩⟩
instance : TySz Tryz.prog 9 false 1 := ⟨⟨Tryz.t9, _, by kernel_rfl, by kernel_rfl, Tryz.underlying9, by kernel_rfl⟩⟩
instance : StrT Tryz.prog 9 := ⟨Tryz.underlying9⟩
instance : HasT Tryz.prog 9 := ⟨⟨_, Tryz.underlying9⟩⟩
instance : ElT Tryz.prog 9 1 := ⟨⟨Tryz.t9, (.string ByteArray.empty : Value), by kernel_rfl, by kernel_rfl, by kernel_rfl, by kernel_rfl, by decide, by decide⟩⟩
instance : ZeroT Tryz.prog 9 (.string ByteArray.empty) := ⟨⟨Tryz.t9, by kernel_rfl, by kernel_rfl⟩⟩
instance : TySz Tryz.prog 22 false 1 := ⟨⟨Tryz.t22, _, by kernel_rfl, by kernel_rfl, Tryz.underlying22, by kernel_rfl⟩⟩
instance : SliT Tryz.prog 22 101 := ⟨Tryz.underlying22⟩
instance : HasT Tryz.prog 22 := ⟨⟨_, Tryz.underlying22⟩⟩
instance : ElT Tryz.prog 22 1 := ⟨⟨Tryz.t22, (.slice none 0 0 : Value), by kernel_rfl, by kernel_rfl, by kernel_rfl, by kernel_rfl, by decide, by decide⟩⟩
instance : ZeroT Tryz.prog 22 (.slice none 0 0) := ⟨⟨Tryz.t22, by kernel_rfl, by kernel_rfl⟩⟩
instance : TySz Tryz.prog 23 false 1 := ⟨⟨Tryz.t23, _, by kernel_rfl, by kernel_rfl, Tryz.underlying23, by kernel_rfl⟩⟩
instance : SliT Tryz.prog 23 9 := ⟨Tryz.underlying23⟩
instance : HasT Tryz.prog 23 := ⟨⟨_, Tryz.underlying23⟩⟩
instance : ElT Tryz.prog 23 1 := ⟨⟨Tryz.t23, (.slice none 0 0 : Value), by kernel_rfl, by kernel_rfl, by kernel_rfl, by kernel_rfl, by decide, by decide⟩⟩
instance : ZeroT Tryz.prog 23 (.slice none 0 0) := ⟨⟨Tryz.t23, by kernel_rfl, by kernel_rfl⟩⟩
instance : TySz Tryz.prog 24 true 4 := ⟨⟨Tryz.t24, _, by kernel_rfl, by kernel_rfl, Tryz.underlying24, by kernel_rfl⟩⟩
instance : FOff Tryz.prog 24 0 0 := ⟨⟨_, _, Tryz.t22, Tryz.underlying24, rfl, rfl, by kernel_rfl, by decide⟩⟩
instance : FTy Tryz.prog 24 0 0 false 1 := ⟨⟨_, _, 22, Tryz.underlying24, rfl, rfl, by kernel_rfl, inferInstance⟩⟩
instance : FOff Tryz.prog 24 1 1 := ⟨⟨_, _, Tryz.t23, Tryz.underlying24, rfl, rfl, by kernel_rfl, by decide⟩⟩
instance : FTy Tryz.prog 24 1 1 false 1 := ⟨⟨_, _, 23, Tryz.underlying24, rfl, rfl, by kernel_rfl, inferInstance⟩⟩
instance : FOff Tryz.prog 24 2 2 := ⟨⟨_, _, Tryz.t3, Tryz.underlying24, rfl, rfl, by kernel_rfl, by decide⟩⟩
instance : FTy Tryz.prog 24 2 2 false 1 := ⟨⟨_, _, 3, Tryz.underlying24, rfl, rfl, by kernel_rfl, inferInstance⟩⟩
instance : FOff Tryz.prog 24 3 3 := ⟨⟨_, _, Tryz.t3, Tryz.underlying24, rfl, rfl, by kernel_rfl, by decide⟩⟩
instance : FTy Tryz.prog 24 3 3 false 1 := ⟨⟨_, _, 3, Tryz.underlying24, rfl, rfl, by kernel_rfl, inferInstance⟩⟩
instance : StructT Tryz.prog 24 := ⟨⟨_, Tryz.underlying24, by kernel_rfl⟩⟩
instance : HasT Tryz.prog 24 := ⟨⟨_, Tryz.underlying24⟩⟩
instance : ElT Tryz.prog 24 4 := ⟨⟨Tryz.t24, (.agg [.slice none 0 0, .slice none 0 0, .int .i64 0, .int .i64 0].toArray : Value), by kernel_rfl, by kernel_rfl, by kernel_rfl, by kernel_rfl, by decide, by decide⟩⟩
instance : ZeroT Tryz.prog 24 (.agg [.slice none 0 0, .slice none 0 0, .int .i64 0, .int .i64 0].toArray) := ⟨⟨Tryz.t24, by kernel_rfl, by kernel_rfl⟩⟩
instance : TySz Tryz.prog 25 true 4 := ⟨⟨Tryz.t25, _, by kernel_rfl, by kernel_rfl, Tryz.underlying25, by kernel_rfl⟩⟩
instance : FOff Tryz.prog 25 0 0 := ⟨⟨_, _, Tryz.t22, Tryz.underlying25, rfl, rfl, by kernel_rfl, by decide⟩⟩
instance : FTy Tryz.prog 25 0 0 false 1 := ⟨⟨_, _, 22, Tryz.underlying25, rfl, rfl, by kernel_rfl, inferInstance⟩⟩
instance : FOff Tryz.prog 25 1 1 := ⟨⟨_, _, Tryz.t23, Tryz.underlying25, rfl, rfl, by kernel_rfl, by decide⟩⟩
instance : FTy Tryz.prog 25 1 1 false 1 := ⟨⟨_, _, 23, Tryz.underlying25, rfl, rfl, by kernel_rfl, inferInstance⟩⟩
instance : FOff Tryz.prog 25 2 2 := ⟨⟨_, _, Tryz.t3, Tryz.underlying25, rfl, rfl, by kernel_rfl, by decide⟩⟩
instance : FTy Tryz.prog 25 2 2 false 1 := ⟨⟨_, _, 3, Tryz.underlying25, rfl, rfl, by kernel_rfl, inferInstance⟩⟩
instance : FOff Tryz.prog 25 3 3 := ⟨⟨_, _, Tryz.t3, Tryz.underlying25, rfl, rfl, by kernel_rfl, by decide⟩⟩
instance : FTy Tryz.prog 25 3 3 false 1 := ⟨⟨_, _, 3, Tryz.underlying25, rfl, rfl, by kernel_rfl, inferInstance⟩⟩
instance : FieldsL Tryz.prog 25 [(22, 0, 1), (23, 1, 1), (3, 2, 1), (3, 3, 1)] 4 := ⟨⟨_, Tryz.underlying25, by kernel_rfl, by kernel_rfl⟩⟩
instance : StructT Tryz.prog 25 := ⟨⟨_, Tryz.underlying25, by kernel_rfl⟩⟩
instance : HasT Tryz.prog 25 := ⟨⟨_, Tryz.underlying25⟩⟩
instance : ElT Tryz.prog 25 4 := ⟨⟨Tryz.t25, (.agg [.slice none 0 0, .slice none 0 0, .int .i64 0, .int .i64 0].toArray : Value), by kernel_rfl, by kernel_rfl, by kernel_rfl, by kernel_rfl, by decide, by decide⟩⟩
instance : ZeroT Tryz.prog 25 (.agg [.slice none 0 0, .slice none 0 0, .int .i64 0, .int .i64 0].toArray) := ⟨⟨Tryz.t25, by kernel_rfl, by kernel_rfl⟩⟩
instance : TySz Tryz.prog 26 false 1 := ⟨⟨Tryz.t26, _, by kernel_rfl, by kernel_rfl, Tryz.underlying26, by kernel_rfl⟩⟩
instance : PtrT Tryz.prog 26 := ⟨⟨_, Tryz.t98, Tryz.underlying26, by kernel_rfl, by decide⟩⟩
instance : HasT Tryz.prog 26 := ⟨⟨_, Tryz.underlying26⟩⟩
instance : ElT Tryz.prog 26 1 := ⟨⟨Tryz.t26, (.pointer none : Value), by kernel_rfl, by kernel_rfl, by kernel_rfl, by kernel_rfl, by decide, by decide⟩⟩
instance : ZeroT Tryz.prog 26 (.pointer none) := ⟨⟨Tryz.t26, by kernel_rfl, by kernel_rfl⟩⟩
instance : TySz Tryz.prog 27 false 1 := ⟨⟨Tryz.t27, _, by kernel_rfl, by kernel_rfl, Tryz.underlying27, by kernel_rfl⟩⟩
instance : IntT Tryz.prog 27 .i64 := ⟨Tryz.underlying27⟩
instance : HasT Tryz.prog 27 := ⟨⟨_, Tryz.underlying27⟩⟩
instance : ElT Tryz.prog 27 1 := ⟨⟨Tryz.t27, (.int .i64 0 : Value), by kernel_rfl, by kernel_rfl, by kernel_rfl, by kernel_rfl, by decide, by decide⟩⟩
instance : ZeroT Tryz.prog 27 (.int .i64 0) := ⟨⟨Tryz.t27, by kernel_rfl, by kernel_rfl⟩⟩
instance : TySz Tryz.prog 30 false 1 := ⟨⟨Tryz.t30, _, by kernel_rfl, by kernel_rfl, Tryz.underlying30, by kernel_rfl⟩⟩
instance : PtrT Tryz.prog 30 := ⟨⟨_, Tryz.t115, Tryz.underlying30, by kernel_rfl, by decide⟩⟩
instance : HasT Tryz.prog 30 := ⟨⟨_, Tryz.underlying30⟩⟩
instance : ElT Tryz.prog 30 1 := ⟨⟨Tryz.t30, (.pointer none : Value), by kernel_rfl, by kernel_rfl, by kernel_rfl, by kernel_rfl, by decide, by decide⟩⟩
instance : ZeroT Tryz.prog 30 (.pointer none) := ⟨⟨Tryz.t30, by kernel_rfl, by kernel_rfl⟩⟩
instance : TySz Tryz.prog 33 false 1 := ⟨⟨Tryz.t33, _, by kernel_rfl, by kernel_rfl, Tryz.underlying33, by kernel_rfl⟩⟩
instance : PtrT Tryz.prog 33 := ⟨⟨_, Tryz.t119, Tryz.underlying33, by kernel_rfl, by decide⟩⟩
instance : HasT Tryz.prog 33 := ⟨⟨_, Tryz.underlying33⟩⟩
instance : ElT Tryz.prog 33 1 := ⟨⟨Tryz.t33, (.pointer none : Value), by kernel_rfl, by kernel_rfl, by kernel_rfl, by kernel_rfl, by decide, by decide⟩⟩
instance : ZeroT Tryz.prog 33 (.pointer none) := ⟨⟨Tryz.t33, by kernel_rfl, by kernel_rfl⟩⟩
instance : TySz Tryz.prog 36 false 1 := ⟨⟨Tryz.t36, _, by kernel_rfl, by kernel_rfl, Tryz.underlying36, by kernel_rfl⟩⟩
instance : PtrT Tryz.prog 36 := ⟨⟨_, Tryz.t121, Tryz.underlying36, by kernel_rfl, by decide⟩⟩
instance : HasT Tryz.prog 36 := ⟨⟨_, Tryz.underlying36⟩⟩
instance : ElT Tryz.prog 36 1 := ⟨⟨Tryz.t36, (.pointer none : Value), by kernel_rfl, by kernel_rfl, by kernel_rfl, by kernel_rfl, by decide, by decide⟩⟩
instance : ZeroT Tryz.prog 36 (.pointer none) := ⟨⟨Tryz.t36, by kernel_rfl, by kernel_rfl⟩⟩
instance : TySz Tryz.prog 39 false 1 := ⟨⟨Tryz.t39, _, by kernel_rfl, by kernel_rfl, Tryz.underlying39, by kernel_rfl⟩⟩
instance : PtrT Tryz.prog 39 := ⟨⟨_, Tryz.t123, Tryz.underlying39, by kernel_rfl, by decide⟩⟩
instance : HasT Tryz.prog 39 := ⟨⟨_, Tryz.underlying39⟩⟩
instance : ElT Tryz.prog 39 1 := ⟨⟨Tryz.t39, (.pointer none : Value), by kernel_rfl, by kernel_rfl, by kernel_rfl, by kernel_rfl, by decide, by decide⟩⟩
instance : ZeroT Tryz.prog 39 (.pointer none) := ⟨⟨Tryz.t39, by kernel_rfl, by kernel_rfl⟩⟩
instance : TySz Tryz.prog 45 false 1 := ⟨⟨Tryz.t45, _, by kernel_rfl, by kernel_rfl, Tryz.underlying45, by kernel_rfl⟩⟩
instance : SliT Tryz.prog 45 2 := ⟨Tryz.underlying45⟩
instance : HasT Tryz.prog 45 := ⟨⟨_, Tryz.underlying45⟩⟩
instance : ElT Tryz.prog 45 1 := ⟨⟨Tryz.t45, (.slice none 0 0 : Value), by kernel_rfl, by kernel_rfl, by kernel_rfl, by kernel_rfl, by decide, by decide⟩⟩
instance : ZeroT Tryz.prog 45 (.slice none 0 0) := ⟨⟨Tryz.t45, by kernel_rfl, by kernel_rfl⟩⟩
instance : TySz Tryz.prog 46 true 4 := ⟨⟨Tryz.t46, _, by kernel_rfl, by kernel_rfl, Tryz.underlying46, by kernel_rfl⟩⟩
instance : ArrT Tryz.prog 46 4 3 := ⟨Tryz.underlying46⟩
instance : HasT Tryz.prog 46 := ⟨⟨_, Tryz.underlying46⟩⟩
instance : ElT Tryz.prog 46 4 := ⟨⟨Tryz.t46, (.agg [.int .i64 0, .int .i64 0, .int .i64 0, .int .i64 0].toArray : Value), by kernel_rfl, by kernel_rfl, by kernel_rfl, by kernel_rfl, by decide, by decide⟩⟩
instance : ZeroT Tryz.prog 46 (.agg [.int .i64 0, .int .i64 0, .int .i64 0, .int .i64 0].toArray) := ⟨⟨Tryz.t46, by kernel_rfl, by kernel_rfl⟩⟩
instance : TySz Tryz.prog 47 true 5 := ⟨⟨Tryz.t47, _, by kernel_rfl, by kernel_rfl, Tryz.underlying47, by kernel_rfl⟩⟩
instance : FOff Tryz.prog 47 0 0 := ⟨⟨_, _, Tryz.t3, Tryz.underlying47, rfl, rfl, by kernel_rfl, by decide⟩⟩
instance : FTy Tryz.prog 47 0 0 false 1 := ⟨⟨_, _, 3, Tryz.underlying47, rfl, rfl, by kernel_rfl, inferInstance⟩⟩
instance : FOff Tryz.prog 47 1 1 := ⟨⟨_, _, Tryz.t46, Tryz.underlying47, rfl, rfl, by kernel_rfl, by decide⟩⟩
instance : FTy Tryz.prog 47 1 1 true 4 := ⟨⟨_, _, 46, Tryz.underlying47, rfl, rfl, by kernel_rfl, inferInstance⟩⟩
instance : StructT Tryz.prog 47 := ⟨⟨_, Tryz.underlying47, by kernel_rfl⟩⟩
instance : HasT Tryz.prog 47 := ⟨⟨_, Tryz.underlying47⟩⟩
instance : ElT Tryz.prog 47 5 := ⟨⟨Tryz.t47, (.agg [.int .i64 0, .int .i64 0, .int .i64 0, .int .i64 0, .int .i64 0].toArray : Value), by kernel_rfl, by kernel_rfl, by kernel_rfl, by kernel_rfl, by decide, by decide⟩⟩
instance : ZeroT Tryz.prog 47 (.agg [.int .i64 0, .int .i64 0, .int .i64 0, .int .i64 0, .int .i64 0].toArray) := ⟨⟨Tryz.t47, by kernel_rfl, by kernel_rfl⟩⟩
instance : TySz Tryz.prog 48 true 5 := ⟨⟨Tryz.t48, _, by kernel_rfl, by kernel_rfl, Tryz.underlying48, by kernel_rfl⟩⟩
instance : FOff Tryz.prog 48 0 0 := ⟨⟨_, _, Tryz.t3, Tryz.underlying48, rfl, rfl, by kernel_rfl, by decide⟩⟩
instance : FTy Tryz.prog 48 0 0 false 1 := ⟨⟨_, _, 3, Tryz.underlying48, rfl, rfl, by kernel_rfl, inferInstance⟩⟩
instance : FOff Tryz.prog 48 1 1 := ⟨⟨_, _, Tryz.t46, Tryz.underlying48, rfl, rfl, by kernel_rfl, by decide⟩⟩
instance : FTy Tryz.prog 48 1 1 true 4 := ⟨⟨_, _, 46, Tryz.underlying48, rfl, rfl, by kernel_rfl, inferInstance⟩⟩
instance : FieldsT Tryz.prog 48 [(3, 0), (46, 1)] := ⟨⟨_, Tryz.underlying48, by kernel_rfl, by kernel_rfl, by kernel_rfl, by kernel_rfl⟩⟩
instance : FieldsL Tryz.prog 48 [(3, 0, 1), (46, 1, 4)] 5 := ⟨⟨_, Tryz.underlying48, by kernel_rfl, by kernel_rfl⟩⟩
instance : StructT Tryz.prog 48 := ⟨⟨_, Tryz.underlying48, by kernel_rfl⟩⟩
instance : HasT Tryz.prog 48 := ⟨⟨_, Tryz.underlying48⟩⟩
instance : ElT Tryz.prog 48 5 := ⟨⟨Tryz.t48, (.agg [.int .i64 0, .int .i64 0, .int .i64 0, .int .i64 0, .int .i64 0].toArray : Value), by kernel_rfl, by kernel_rfl, by kernel_rfl, by kernel_rfl, by decide, by decide⟩⟩
instance : ZeroT Tryz.prog 48 (.agg [.int .i64 0, .int .i64 0, .int .i64 0, .int .i64 0, .int .i64 0].toArray) := ⟨⟨Tryz.t48, by kernel_rfl, by kernel_rfl⟩⟩
instance : TySz Tryz.prog 49 false 1 := ⟨⟨Tryz.t49, _, by kernel_rfl, by kernel_rfl, Tryz.underlying49, by kernel_rfl⟩⟩
instance : PtrT Tryz.prog 49 := ⟨⟨_, Tryz.t56, Tryz.underlying49, by kernel_rfl, by decide⟩⟩
instance : HasT Tryz.prog 49 := ⟨⟨_, Tryz.underlying49⟩⟩
instance : ElT Tryz.prog 49 1 := ⟨⟨Tryz.t49, (.pointer none : Value), by kernel_rfl, by kernel_rfl, by kernel_rfl, by kernel_rfl, by decide, by decide⟩⟩
instance : ZeroT Tryz.prog 49 (.pointer none) := ⟨⟨Tryz.t49, by kernel_rfl, by kernel_rfl⟩⟩
instance : TySz Tryz.prog 51 false 1 := ⟨⟨Tryz.t51, _, by kernel_rfl, by kernel_rfl, Tryz.underlying51, by kernel_rfl⟩⟩
instance : SliT Tryz.prog 51 61 := ⟨Tryz.underlying51⟩
instance : HasT Tryz.prog 51 := ⟨⟨_, Tryz.underlying51⟩⟩
instance : ElT Tryz.prog 51 1 := ⟨⟨Tryz.t51, (.slice none 0 0 : Value), by kernel_rfl, by kernel_rfl, by kernel_rfl, by kernel_rfl, by decide, by decide⟩⟩
instance : ZeroT Tryz.prog 51 (.slice none 0 0) := ⟨⟨Tryz.t51, by kernel_rfl, by kernel_rfl⟩⟩
instance : TySz Tryz.prog 53 false 1 := ⟨⟨Tryz.t53, _, by kernel_rfl, by kernel_rfl, Tryz.underlying53, by kernel_rfl⟩⟩
instance : PtrT Tryz.prog 53 := ⟨⟨_, Tryz.t133, Tryz.underlying53, by kernel_rfl, by decide⟩⟩
instance : HasT Tryz.prog 53 := ⟨⟨_, Tryz.underlying53⟩⟩
instance : ElT Tryz.prog 53 1 := ⟨⟨Tryz.t53, (.pointer none : Value), by kernel_rfl, by kernel_rfl, by kernel_rfl, by kernel_rfl, by decide, by decide⟩⟩
instance : ZeroT Tryz.prog 53 (.pointer none) := ⟨⟨Tryz.t53, by kernel_rfl, by kernel_rfl⟩⟩
instance : TySz Tryz.prog 54 false 1 := ⟨⟨Tryz.t54, _, by kernel_rfl, by kernel_rfl, Tryz.underlying54, by kernel_rfl⟩⟩
instance : SliT Tryz.prog 54 90 := ⟨Tryz.underlying54⟩
instance : HasT Tryz.prog 54 := ⟨⟨_, Tryz.underlying54⟩⟩
instance : ElT Tryz.prog 54 1 := ⟨⟨Tryz.t54, (.slice none 0 0 : Value), by kernel_rfl, by kernel_rfl, by kernel_rfl, by kernel_rfl, by decide, by decide⟩⟩
instance : ZeroT Tryz.prog 54 (.slice none 0 0) := ⟨⟨Tryz.t54, by kernel_rfl, by kernel_rfl⟩⟩
instance : TySz Tryz.prog 55 true 4 := ⟨⟨Tryz.t55, _, by kernel_rfl, by kernel_rfl, Tryz.underlying55, by kernel_rfl⟩⟩
instance : FOff Tryz.prog 55 0 0 := ⟨⟨_, _, Tryz.t39, Tryz.underlying55, rfl, rfl, by kernel_rfl, by decide⟩⟩
instance : FTy Tryz.prog 55 0 0 false 1 := ⟨⟨_, _, 39, Tryz.underlying55, rfl, rfl, by kernel_rfl, inferInstance⟩⟩
instance : FOff Tryz.prog 55 1 1 := ⟨⟨_, _, Tryz.t3, Tryz.underlying55, rfl, rfl, by kernel_rfl, by decide⟩⟩
instance : FTy Tryz.prog 55 1 1 false 1 := ⟨⟨_, _, 3, Tryz.underlying55, rfl, rfl, by kernel_rfl, inferInstance⟩⟩
instance : FOff Tryz.prog 55 2 2 := ⟨⟨_, _, Tryz.t53, Tryz.underlying55, rfl, rfl, by kernel_rfl, by decide⟩⟩
instance : FTy Tryz.prog 55 2 2 false 1 := ⟨⟨_, _, 53, Tryz.underlying55, rfl, rfl, by kernel_rfl, inferInstance⟩⟩
instance : FOff Tryz.prog 55 3 3 := ⟨⟨_, _, Tryz.t54, Tryz.underlying55, rfl, rfl, by kernel_rfl, by decide⟩⟩
instance : FTy Tryz.prog 55 3 3 false 1 := ⟨⟨_, _, 54, Tryz.underlying55, rfl, rfl, by kernel_rfl, inferInstance⟩⟩
instance : StructT Tryz.prog 55 := ⟨⟨_, Tryz.underlying55, by kernel_rfl⟩⟩
instance : HasT Tryz.prog 55 := ⟨⟨_, Tryz.underlying55⟩⟩
instance : ElT Tryz.prog 55 4 := ⟨⟨Tryz.t55, (.agg [.pointer none, .int .i64 0, .pointer none, .slice none 0 0].toArray : Value), by kernel_rfl, by kernel_rfl, by kernel_rfl, by kernel_rfl, by decide, by decide⟩⟩
instance : ZeroT Tryz.prog 55 (.agg [.pointer none, .int .i64 0, .pointer none, .slice none 0 0].toArray) := ⟨⟨Tryz.t55, by kernel_rfl, by kernel_rfl⟩⟩
instance : TySz Tryz.prog 56 true 4 := ⟨⟨Tryz.t56, _, by kernel_rfl, by kernel_rfl, Tryz.underlying56, by kernel_rfl⟩⟩
instance : FOff Tryz.prog 56 0 0 := ⟨⟨_, _, Tryz.t39, Tryz.underlying56, rfl, rfl, by kernel_rfl, by decide⟩⟩
instance : FTy Tryz.prog 56 0 0 false 1 := ⟨⟨_, _, 39, Tryz.underlying56, rfl, rfl, by kernel_rfl, inferInstance⟩⟩
instance : FOff Tryz.prog 56 1 1 := ⟨⟨_, _, Tryz.t3, Tryz.underlying56, rfl, rfl, by kernel_rfl, by decide⟩⟩
instance : FTy Tryz.prog 56 1 1 false 1 := ⟨⟨_, _, 3, Tryz.underlying56, rfl, rfl, by kernel_rfl, inferInstance⟩⟩
instance : FOff Tryz.prog 56 2 2 := ⟨⟨_, _, Tryz.t53, Tryz.underlying56, rfl, rfl, by kernel_rfl, by decide⟩⟩
instance : FTy Tryz.prog 56 2 2 false 1 := ⟨⟨_, _, 53, Tryz.underlying56, rfl, rfl, by kernel_rfl, inferInstance⟩⟩
instance : FOff Tryz.prog 56 3 3 := ⟨⟨_, _, Tryz.t54, Tryz.underlying56, rfl, rfl, by kernel_rfl, by decide⟩⟩
instance : FTy Tryz.prog 56 3 3 false 1 := ⟨⟨_, _, 54, Tryz.underlying56, rfl, rfl, by kernel_rfl, inferInstance⟩⟩
instance : FieldsL Tryz.prog 56 [(39, 0, 1), (3, 1, 1), (53, 2, 1), (54, 3, 1)] 4 := ⟨⟨_, Tryz.underlying56, by kernel_rfl, by kernel_rfl⟩⟩
instance : StructT Tryz.prog 56 := ⟨⟨_, Tryz.underlying56, by kernel_rfl⟩⟩
instance : HasT Tryz.prog 56 := ⟨⟨_, Tryz.underlying56⟩⟩
instance : ElT Tryz.prog 56 4 := ⟨⟨Tryz.t56, (.agg [.pointer none, .int .i64 0, .pointer none, .slice none 0 0].toArray : Value), by kernel_rfl, by kernel_rfl, by kernel_rfl, by kernel_rfl, by decide, by decide⟩⟩
instance : ZeroT Tryz.prog 56 (.agg [.pointer none, .int .i64 0, .pointer none, .slice none 0 0].toArray) := ⟨⟨Tryz.t56, by kernel_rfl, by kernel_rfl⟩⟩
instance : TySz Tryz.prog 60 true 6 := ⟨⟨Tryz.t60, _, by kernel_rfl, by kernel_rfl, Tryz.underlying60, by kernel_rfl⟩⟩
instance : FOff Tryz.prog 60 0 0 := ⟨⟨_, _, Tryz.t48, Tryz.underlying60, rfl, rfl, by kernel_rfl, by decide⟩⟩
instance : FTy Tryz.prog 60 0 0 true 5 := ⟨⟨_, _, 48, Tryz.underlying60, rfl, rfl, by kernel_rfl, inferInstance⟩⟩
instance : FOff Tryz.prog 60 1 5 := ⟨⟨_, _, Tryz.t2, Tryz.underlying60, rfl, rfl, by kernel_rfl, by decide⟩⟩
instance : FTy Tryz.prog 60 1 5 false 1 := ⟨⟨_, _, 2, Tryz.underlying60, rfl, rfl, by kernel_rfl, inferInstance⟩⟩
instance : StructT Tryz.prog 60 := ⟨⟨_, Tryz.underlying60, by kernel_rfl⟩⟩
instance : HasT Tryz.prog 60 := ⟨⟨_, Tryz.underlying60⟩⟩
instance : ElT Tryz.prog 60 6 := ⟨⟨Tryz.t60, (.agg [.int .i64 0, .int .i64 0, .int .i64 0, .int .i64 0, .int .i64 0, .int .i64 0].toArray : Value), by kernel_rfl, by kernel_rfl, by kernel_rfl, by kernel_rfl, by decide, by decide⟩⟩
instance : ZeroT Tryz.prog 60 (.agg [.int .i64 0, .int .i64 0, .int .i64 0, .int .i64 0, .int .i64 0, .int .i64 0].toArray) := ⟨⟨Tryz.t60, by kernel_rfl, by kernel_rfl⟩⟩
instance : TySz Tryz.prog 61 true 6 := ⟨⟨Tryz.t61, _, by kernel_rfl, by kernel_rfl, Tryz.underlying61, by kernel_rfl⟩⟩
instance : FOff Tryz.prog 61 0 0 := ⟨⟨_, _, Tryz.t48, Tryz.underlying61, rfl, rfl, by kernel_rfl, by decide⟩⟩
instance : FTy Tryz.prog 61 0 0 true 5 := ⟨⟨_, _, 48, Tryz.underlying61, rfl, rfl, by kernel_rfl, inferInstance⟩⟩
instance : FOff Tryz.prog 61 1 5 := ⟨⟨_, _, Tryz.t2, Tryz.underlying61, rfl, rfl, by kernel_rfl, by decide⟩⟩
instance : FTy Tryz.prog 61 1 5 false 1 := ⟨⟨_, _, 2, Tryz.underlying61, rfl, rfl, by kernel_rfl, inferInstance⟩⟩
instance : FieldsT Tryz.prog 61 [(48, 0), (2, 5)] := ⟨⟨_, Tryz.underlying61, by kernel_rfl, by kernel_rfl, by kernel_rfl, by kernel_rfl⟩⟩
instance : FieldsL Tryz.prog 61 [(48, 0, 5), (2, 5, 1)] 6 := ⟨⟨_, Tryz.underlying61, by kernel_rfl, by kernel_rfl⟩⟩
instance : StructT Tryz.prog 61 := ⟨⟨_, Tryz.underlying61, by kernel_rfl⟩⟩
instance : HasT Tryz.prog 61 := ⟨⟨_, Tryz.underlying61⟩⟩
instance : ElT Tryz.prog 61 6 := ⟨⟨Tryz.t61, (.agg [.int .i64 0, .int .i64 0, .int .i64 0, .int .i64 0, .int .i64 0, .int .i64 0].toArray : Value), by kernel_rfl, by kernel_rfl, by kernel_rfl, by kernel_rfl, by decide, by decide⟩⟩
instance : ZeroT Tryz.prog 61 (.agg [.int .i64 0, .int .i64 0, .int .i64 0, .int .i64 0, .int .i64 0, .int .i64 0].toArray) := ⟨⟨Tryz.t61, by kernel_rfl, by kernel_rfl⟩⟩
instance : TySz Tryz.prog 81 false 1 := ⟨⟨Tryz.t81, _, by kernel_rfl, by kernel_rfl, Tryz.underlying81, by kernel_rfl⟩⟩
instance : PtrT Tryz.prog 81 := ⟨⟨_, Tryz.t169, Tryz.underlying81, by kernel_rfl, by decide⟩⟩
instance : HasT Tryz.prog 81 := ⟨⟨_, Tryz.underlying81⟩⟩
instance : ElT Tryz.prog 81 1 := ⟨⟨Tryz.t81, (.pointer none : Value), by kernel_rfl, by kernel_rfl, by kernel_rfl, by kernel_rfl, by decide, by decide⟩⟩
instance : ZeroT Tryz.prog 81 (.pointer none) := ⟨⟨Tryz.t81, by kernel_rfl, by kernel_rfl⟩⟩
instance : TySz Tryz.prog 82 false 1 := ⟨⟨Tryz.t82, _, by kernel_rfl, by kernel_rfl, Tryz.underlying82, by kernel_rfl⟩⟩
instance : PtrT Tryz.prog 82 := ⟨⟨_, Tryz.t213, Tryz.underlying82, by kernel_rfl, by decide⟩⟩
instance : HasT Tryz.prog 82 := ⟨⟨_, Tryz.underlying82⟩⟩
instance : ElT Tryz.prog 82 1 := ⟨⟨Tryz.t82, (.pointer none : Value), by kernel_rfl, by kernel_rfl, by kernel_rfl, by kernel_rfl, by decide, by decide⟩⟩
instance : ZeroT Tryz.prog 82 (.pointer none) := ⟨⟨Tryz.t82, by kernel_rfl, by kernel_rfl⟩⟩
instance : TySz Tryz.prog 89 true 2 := ⟨⟨Tryz.t89, _, by kernel_rfl, by kernel_rfl, Tryz.underlying89, by kernel_rfl⟩⟩
instance : FOff Tryz.prog 89 0 0 := ⟨⟨_, _, Tryz.t2, Tryz.underlying89, rfl, rfl, by kernel_rfl, by decide⟩⟩
instance : FTy Tryz.prog 89 0 0 false 1 := ⟨⟨_, _, 2, Tryz.underlying89, rfl, rfl, by kernel_rfl, inferInstance⟩⟩
instance : FOff Tryz.prog 89 1 1 := ⟨⟨_, _, Tryz.t4, Tryz.underlying89, rfl, rfl, by kernel_rfl, by decide⟩⟩
instance : FTy Tryz.prog 89 1 1 false 1 := ⟨⟨_, _, 4, Tryz.underlying89, rfl, rfl, by kernel_rfl, inferInstance⟩⟩
instance : StructT Tryz.prog 89 := ⟨⟨_, Tryz.underlying89, by kernel_rfl⟩⟩
instance : HasT Tryz.prog 89 := ⟨⟨_, Tryz.underlying89⟩⟩
instance : ElT Tryz.prog 89 2 := ⟨⟨Tryz.t89, (.agg [.int .i64 0, .bool false].toArray : Value), by kernel_rfl, by kernel_rfl, by kernel_rfl, by kernel_rfl, by decide, by decide⟩⟩
instance : ZeroT Tryz.prog 89 (.agg [.int .i64 0, .bool false].toArray) := ⟨⟨Tryz.t89, by kernel_rfl, by kernel_rfl⟩⟩
instance : TySz Tryz.prog 90 true 2 := ⟨⟨Tryz.t90, _, by kernel_rfl, by kernel_rfl, Tryz.underlying90, by kernel_rfl⟩⟩
instance : FOff Tryz.prog 90 0 0 := ⟨⟨_, _, Tryz.t2, Tryz.underlying90, rfl, rfl, by kernel_rfl, by decide⟩⟩
instance : FTy Tryz.prog 90 0 0 false 1 := ⟨⟨_, _, 2, Tryz.underlying90, rfl, rfl, by kernel_rfl, inferInstance⟩⟩
instance : FOff Tryz.prog 90 1 1 := ⟨⟨_, _, Tryz.t4, Tryz.underlying90, rfl, rfl, by kernel_rfl, by decide⟩⟩
instance : FTy Tryz.prog 90 1 1 false 1 := ⟨⟨_, _, 4, Tryz.underlying90, rfl, rfl, by kernel_rfl, inferInstance⟩⟩
instance : FieldsT Tryz.prog 90 [(2, 0), (4, 1)] := ⟨⟨_, Tryz.underlying90, by kernel_rfl, by kernel_rfl, by kernel_rfl, by kernel_rfl⟩⟩
instance : FieldsL Tryz.prog 90 [(2, 0, 1), (4, 1, 1)] 2 := ⟨⟨_, Tryz.underlying90, by kernel_rfl, by kernel_rfl⟩⟩
instance : StructT Tryz.prog 90 := ⟨⟨_, Tryz.underlying90, by kernel_rfl⟩⟩
instance : HasT Tryz.prog 90 := ⟨⟨_, Tryz.underlying90⟩⟩
instance : ElT Tryz.prog 90 2 := ⟨⟨Tryz.t90, (.agg [.int .i64 0, .bool false].toArray : Value), by kernel_rfl, by kernel_rfl, by kernel_rfl, by kernel_rfl, by decide, by decide⟩⟩
instance : ZeroT Tryz.prog 90 (.agg [.int .i64 0, .bool false].toArray) := ⟨⟨Tryz.t90, by kernel_rfl, by kernel_rfl⟩⟩
instance : TySz Tryz.prog 96 false 1 := ⟨⟨Tryz.t96, _, by kernel_rfl, by kernel_rfl, Tryz.underlying96, by kernel_rfl⟩⟩
instance : SliT Tryz.prog 96 107 := ⟨Tryz.underlying96⟩
instance : HasT Tryz.prog 96 := ⟨⟨_, Tryz.underlying96⟩⟩
instance : ElT Tryz.prog 96 1 := ⟨⟨Tryz.t96, (.slice none 0 0 : Value), by kernel_rfl, by kernel_rfl, by kernel_rfl, by kernel_rfl, by decide, by decide⟩⟩
instance : ZeroT Tryz.prog 96 (.slice none 0 0) := ⟨⟨Tryz.t96, by kernel_rfl, by kernel_rfl⟩⟩
instance : TySz Tryz.prog 97 true 5 := ⟨⟨Tryz.t97, _, by kernel_rfl, by kernel_rfl, Tryz.underlying97, by kernel_rfl⟩⟩
instance : FOff Tryz.prog 97 0 0 := ⟨⟨_, _, Tryz.t25, Tryz.underlying97, rfl, rfl, by kernel_rfl, by decide⟩⟩
instance : FTy Tryz.prog 97 0 0 true 4 := ⟨⟨_, _, 25, Tryz.underlying97, rfl, rfl, by kernel_rfl, inferInstance⟩⟩
instance : FOff Tryz.prog 97 1 4 := ⟨⟨_, _, Tryz.t96, Tryz.underlying97, rfl, rfl, by kernel_rfl, by decide⟩⟩
instance : FTy Tryz.prog 97 1 4 false 1 := ⟨⟨_, _, 96, Tryz.underlying97, rfl, rfl, by kernel_rfl, inferInstance⟩⟩
instance : StructT Tryz.prog 97 := ⟨⟨_, Tryz.underlying97, by kernel_rfl⟩⟩
instance : HasT Tryz.prog 97 := ⟨⟨_, Tryz.underlying97⟩⟩
instance : ElT Tryz.prog 97 5 := ⟨⟨Tryz.t97, (.agg [.slice none 0 0, .slice none 0 0, .int .i64 0, .int .i64 0, .slice none 0 0].toArray : Value), by kernel_rfl, by kernel_rfl, by kernel_rfl, by kernel_rfl, by decide, by decide⟩⟩
instance : ZeroT Tryz.prog 97 (.agg [.slice none 0 0, .slice none 0 0, .int .i64 0, .int .i64 0, .slice none 0 0].toArray) := ⟨⟨Tryz.t97, by kernel_rfl, by kernel_rfl⟩⟩
instance : TySz Tryz.prog 98 true 5 := ⟨⟨Tryz.t98, _, by kernel_rfl, by kernel_rfl, Tryz.underlying98, by kernel_rfl⟩⟩
instance : FOff Tryz.prog 98 0 0 := ⟨⟨_, _, Tryz.t25, Tryz.underlying98, rfl, rfl, by kernel_rfl, by decide⟩⟩
instance : FTy Tryz.prog 98 0 0 true 4 := ⟨⟨_, _, 25, Tryz.underlying98, rfl, rfl, by kernel_rfl, inferInstance⟩⟩
instance : FOff Tryz.prog 98 1 4 := ⟨⟨_, _, Tryz.t96, Tryz.underlying98, rfl, rfl, by kernel_rfl, by decide⟩⟩
instance : FTy Tryz.prog 98 1 4 false 1 := ⟨⟨_, _, 96, Tryz.underlying98, rfl, rfl, by kernel_rfl, inferInstance⟩⟩
instance : FieldsL Tryz.prog 98 [(25, 0, 4), (96, 4, 1)] 5 := ⟨⟨_, Tryz.underlying98, by kernel_rfl, by kernel_rfl⟩⟩
instance : StructT Tryz.prog 98 := ⟨⟨_, Tryz.underlying98, by kernel_rfl⟩⟩
instance : HasT Tryz.prog 98 := ⟨⟨_, Tryz.underlying98⟩⟩
instance : ElT Tryz.prog 98 5 := ⟨⟨Tryz.t98, (.agg [.slice none 0 0, .slice none 0 0, .int .i64 0, .int .i64 0, .slice none 0 0].toArray : Value), by kernel_rfl, by kernel_rfl, by kernel_rfl, by kernel_rfl, by decide, by decide⟩⟩
instance : ZeroT Tryz.prog 98 (.agg [.slice none 0 0, .slice none 0 0, .int .i64 0, .int .i64 0, .slice none 0 0].toArray) := ⟨⟨Tryz.t98, by kernel_rfl, by kernel_rfl⟩⟩
instance : TySz Tryz.prog 99 false 1 := ⟨⟨Tryz.t99, _, by kernel_rfl, by kernel_rfl, Tryz.underlying99, by kernel_rfl⟩⟩
instance : SliT Tryz.prog 99 126 := ⟨Tryz.underlying99⟩
instance : HasT Tryz.prog 99 := ⟨⟨_, Tryz.underlying99⟩⟩
instance : ElT Tryz.prog 99 1 := ⟨⟨Tryz.t99, (.slice none 0 0 : Value), by kernel_rfl, by kernel_rfl, by kernel_rfl, by kernel_rfl, by decide, by decide⟩⟩
instance : ZeroT Tryz.prog 99 (.slice none 0 0) := ⟨⟨Tryz.t99, by kernel_rfl, by kernel_rfl⟩⟩
instance : TySz Tryz.prog 100 true 2 := ⟨⟨Tryz.t100, _, by kernel_rfl, by kernel_rfl, Tryz.underlying100, by kernel_rfl⟩⟩
instance : FOff Tryz.prog 100 0 0 := ⟨⟨_, _, Tryz.t9, Tryz.underlying100, rfl, rfl, by kernel_rfl, by decide⟩⟩
instance : FTy Tryz.prog 100 0 0 false 1 := ⟨⟨_, _, 9, Tryz.underlying100, rfl, rfl, by kernel_rfl, inferInstance⟩⟩
instance : FOff Tryz.prog 100 1 1 := ⟨⟨_, _, Tryz.t99, Tryz.underlying100, rfl, rfl, by kernel_rfl, by decide⟩⟩
instance : FTy Tryz.prog 100 1 1 false 1 := ⟨⟨_, _, 99, Tryz.underlying100, rfl, rfl, by kernel_rfl, inferInstance⟩⟩
instance : StructT Tryz.prog 100 := ⟨⟨_, Tryz.underlying100, by kernel_rfl⟩⟩
instance : HasT Tryz.prog 100 := ⟨⟨_, Tryz.underlying100⟩⟩
instance : ElT Tryz.prog 100 2 := ⟨⟨Tryz.t100, (.agg [.string ByteArray.empty, .slice none 0 0].toArray : Value), by kernel_rfl, by kernel_rfl, by kernel_rfl, by kernel_rfl, by decide, by decide⟩⟩
instance : ZeroT Tryz.prog 100 (.agg [.string ByteArray.empty, .slice none 0 0].toArray) := ⟨⟨Tryz.t100, by kernel_rfl, by kernel_rfl⟩⟩
instance : TySz Tryz.prog 101 true 2 := ⟨⟨Tryz.t101, _, by kernel_rfl, by kernel_rfl, Tryz.underlying101, by kernel_rfl⟩⟩
instance : FOff Tryz.prog 101 0 0 := ⟨⟨_, _, Tryz.t9, Tryz.underlying101, rfl, rfl, by kernel_rfl, by decide⟩⟩
instance : FTy Tryz.prog 101 0 0 false 1 := ⟨⟨_, _, 9, Tryz.underlying101, rfl, rfl, by kernel_rfl, inferInstance⟩⟩
instance : FOff Tryz.prog 101 1 1 := ⟨⟨_, _, Tryz.t99, Tryz.underlying101, rfl, rfl, by kernel_rfl, by decide⟩⟩
instance : FTy Tryz.prog 101 1 1 false 1 := ⟨⟨_, _, 99, Tryz.underlying101, rfl, rfl, by kernel_rfl, inferInstance⟩⟩
instance : FieldsL Tryz.prog 101 [(9, 0, 1), (99, 1, 1)] 2 := ⟨⟨_, Tryz.underlying101, by kernel_rfl, by kernel_rfl⟩⟩
instance : StructT Tryz.prog 101 := ⟨⟨_, Tryz.underlying101, by kernel_rfl⟩⟩
instance : HasT Tryz.prog 101 := ⟨⟨_, Tryz.underlying101⟩⟩
instance : ElT Tryz.prog 101 2 := ⟨⟨Tryz.t101, (.agg [.string ByteArray.empty, .slice none 0 0].toArray : Value), by kernel_rfl, by kernel_rfl, by kernel_rfl, by kernel_rfl, by decide, by decide⟩⟩
instance : ZeroT Tryz.prog 101 (.agg [.string ByteArray.empty, .slice none 0 0].toArray) := ⟨⟨Tryz.t101, by kernel_rfl, by kernel_rfl⟩⟩
instance : TySz Tryz.prog 103 false 1 := ⟨⟨Tryz.t103, _, by kernel_rfl, by kernel_rfl, Tryz.underlying103, by kernel_rfl⟩⟩
instance : PtrT Tryz.prog 103 := ⟨⟨_, Tryz.t183, Tryz.underlying103, by kernel_rfl, by decide⟩⟩
instance : HasT Tryz.prog 103 := ⟨⟨_, Tryz.underlying103⟩⟩
instance : ElT Tryz.prog 103 1 := ⟨⟨Tryz.t103, (.pointer none : Value), by kernel_rfl, by kernel_rfl, by kernel_rfl, by kernel_rfl, by decide, by decide⟩⟩
instance : ZeroT Tryz.prog 103 (.pointer none) := ⟨⟨Tryz.t103, by kernel_rfl, by kernel_rfl⟩⟩
instance : TySz Tryz.prog 106 true 2 := ⟨⟨Tryz.t106, _, by kernel_rfl, by kernel_rfl, Tryz.underlying106, by kernel_rfl⟩⟩
instance : FOff Tryz.prog 106 0 0 := ⟨⟨_, _, Tryz.t103, Tryz.underlying106, rfl, rfl, by kernel_rfl, by decide⟩⟩
instance : FTy Tryz.prog 106 0 0 false 1 := ⟨⟨_, _, 103, Tryz.underlying106, rfl, rfl, by kernel_rfl, inferInstance⟩⟩
instance : FOff Tryz.prog 106 1 1 := ⟨⟨_, _, Tryz.t9, Tryz.underlying106, rfl, rfl, by kernel_rfl, by decide⟩⟩
instance : FTy Tryz.prog 106 1 1 false 1 := ⟨⟨_, _, 9, Tryz.underlying106, rfl, rfl, by kernel_rfl, inferInstance⟩⟩
instance : StructT Tryz.prog 106 := ⟨⟨_, Tryz.underlying106, by kernel_rfl⟩⟩
instance : HasT Tryz.prog 106 := ⟨⟨_, Tryz.underlying106⟩⟩
instance : ElT Tryz.prog 106 2 := ⟨⟨Tryz.t106, (.agg [.pointer none, .string ByteArray.empty].toArray : Value), by kernel_rfl, by kernel_rfl, by kernel_rfl, by kernel_rfl, by decide, by decide⟩⟩
instance : ZeroT Tryz.prog 106 (.agg [.pointer none, .string ByteArray.empty].toArray) := ⟨⟨Tryz.t106, by kernel_rfl, by kernel_rfl⟩⟩
instance : TySz Tryz.prog 107 true 2 := ⟨⟨Tryz.t107, _, by kernel_rfl, by kernel_rfl, Tryz.underlying107, by kernel_rfl⟩⟩
instance : FOff Tryz.prog 107 0 0 := ⟨⟨_, _, Tryz.t103, Tryz.underlying107, rfl, rfl, by kernel_rfl, by decide⟩⟩
instance : FTy Tryz.prog 107 0 0 false 1 := ⟨⟨_, _, 103, Tryz.underlying107, rfl, rfl, by kernel_rfl, inferInstance⟩⟩
instance : FOff Tryz.prog 107 1 1 := ⟨⟨_, _, Tryz.t9, Tryz.underlying107, rfl, rfl, by kernel_rfl, by decide⟩⟩
instance : FTy Tryz.prog 107 1 1 false 1 := ⟨⟨_, _, 9, Tryz.underlying107, rfl, rfl, by kernel_rfl, inferInstance⟩⟩
instance : FieldsL Tryz.prog 107 [(103, 0, 1), (9, 1, 1)] 2 := ⟨⟨_, Tryz.underlying107, by kernel_rfl, by kernel_rfl⟩⟩
instance : StructT Tryz.prog 107 := ⟨⟨_, Tryz.underlying107, by kernel_rfl⟩⟩
instance : HasT Tryz.prog 107 := ⟨⟨_, Tryz.underlying107⟩⟩
instance : ElT Tryz.prog 107 2 := ⟨⟨Tryz.t107, (.agg [.pointer none, .string ByteArray.empty].toArray : Value), by kernel_rfl, by kernel_rfl, by kernel_rfl, by kernel_rfl, by decide, by decide⟩⟩
instance : ZeroT Tryz.prog 107 (.agg [.pointer none, .string ByteArray.empty].toArray) := ⟨⟨Tryz.t107, by kernel_rfl, by kernel_rfl⟩⟩
instance : TySz Tryz.prog 108 false 1 := ⟨⟨Tryz.t108, _, by kernel_rfl, by kernel_rfl, Tryz.underlying108, by kernel_rfl⟩⟩
instance : SliT Tryz.prog 108 3 := ⟨Tryz.underlying108⟩
instance : HasT Tryz.prog 108 := ⟨⟨_, Tryz.underlying108⟩⟩
instance : ElT Tryz.prog 108 1 := ⟨⟨Tryz.t108, (.slice none 0 0 : Value), by kernel_rfl, by kernel_rfl, by kernel_rfl, by kernel_rfl, by decide, by decide⟩⟩
instance : ZeroT Tryz.prog 108 (.slice none 0 0) := ⟨⟨Tryz.t108, by kernel_rfl, by kernel_rfl⟩⟩
instance : TySz Tryz.prog 111 false 1 := ⟨⟨Tryz.t111, _, by kernel_rfl, by kernel_rfl, Tryz.underlying111, by kernel_rfl⟩⟩
instance : SliT Tryz.prog 111 103 := ⟨Tryz.underlying111⟩
instance : HasT Tryz.prog 111 := ⟨⟨_, Tryz.underlying111⟩⟩
instance : ElT Tryz.prog 111 1 := ⟨⟨Tryz.t111, (.slice none 0 0 : Value), by kernel_rfl, by kernel_rfl, by kernel_rfl, by kernel_rfl, by decide, by decide⟩⟩
instance : ZeroT Tryz.prog 111 (.slice none 0 0) := ⟨⟨Tryz.t111, by kernel_rfl, by kernel_rfl⟩⟩
instance : TySz Tryz.prog 112 false 1 := ⟨⟨Tryz.t112, _, by kernel_rfl, by kernel_rfl, Tryz.underlying112, by kernel_rfl⟩⟩
instance : SliT Tryz.prog 112 108 := ⟨Tryz.underlying112⟩
instance : HasT Tryz.prog 112 := ⟨⟨_, Tryz.underlying112⟩⟩
instance : ElT Tryz.prog 112 1 := ⟨⟨Tryz.t112, (.slice none 0 0 : Value), by kernel_rfl, by kernel_rfl, by kernel_rfl, by kernel_rfl, by decide, by decide⟩⟩
instance : ZeroT Tryz.prog 112 (.slice none 0 0) := ⟨⟨Tryz.t112, by kernel_rfl, by kernel_rfl⟩⟩
instance : TySz Tryz.prog 113 true 4 := ⟨⟨Tryz.t113, _, by kernel_rfl, by kernel_rfl, Tryz.underlying113, by kernel_rfl⟩⟩
instance : ArrT Tryz.prog 113 4 3 := ⟨Tryz.underlying113⟩
instance : HasT Tryz.prog 113 := ⟨⟨_, Tryz.underlying113⟩⟩
instance : ElT Tryz.prog 113 4 := ⟨⟨Tryz.t113, (.agg [.int .i64 0, .int .i64 0, .int .i64 0, .int .i64 0].toArray : Value), by kernel_rfl, by kernel_rfl, by kernel_rfl, by kernel_rfl, by decide, by decide⟩⟩
instance : ZeroT Tryz.prog 113 (.agg [.int .i64 0, .int .i64 0, .int .i64 0, .int .i64 0].toArray) := ⟨⟨Tryz.t113, by kernel_rfl, by kernel_rfl⟩⟩
instance : TySz Tryz.prog 114 true 12 := ⟨⟨Tryz.t114, _, by kernel_rfl, by kernel_rfl, Tryz.underlying114, by kernel_rfl⟩⟩
instance : FOff Tryz.prog 114 0 0 := ⟨⟨_, _, Tryz.t26, Tryz.underlying114, rfl, rfl, by kernel_rfl, by decide⟩⟩
instance : FTy Tryz.prog 114 0 0 false 1 := ⟨⟨_, _, 26, Tryz.underlying114, rfl, rfl, by kernel_rfl, inferInstance⟩⟩
instance : FOff Tryz.prog 114 1 1 := ⟨⟨_, _, Tryz.t3, Tryz.underlying114, rfl, rfl, by kernel_rfl, by decide⟩⟩
instance : FTy Tryz.prog 114 1 1 false 1 := ⟨⟨_, _, 3, Tryz.underlying114, rfl, rfl, by kernel_rfl, inferInstance⟩⟩
instance : FOff Tryz.prog 114 2 2 := ⟨⟨_, _, Tryz.t111, Tryz.underlying114, rfl, rfl, by kernel_rfl, by decide⟩⟩
instance : FTy Tryz.prog 114 2 2 false 1 := ⟨⟨_, _, 111, Tryz.underlying114, rfl, rfl, by kernel_rfl, inferInstance⟩⟩
instance : FOff Tryz.prog 114 3 3 := ⟨⟨_, _, Tryz.t112, Tryz.underlying114, rfl, rfl, by kernel_rfl, by decide⟩⟩
instance : FTy Tryz.prog 114 3 3 false 1 := ⟨⟨_, _, 112, Tryz.underlying114, rfl, rfl, by kernel_rfl, inferInstance⟩⟩
instance : FOff Tryz.prog 114 4 4 := ⟨⟨_, _, Tryz.t113, Tryz.underlying114, rfl, rfl, by kernel_rfl, by decide⟩⟩
instance : FTy Tryz.prog 114 4 4 true 4 := ⟨⟨_, _, 113, Tryz.underlying114, rfl, rfl, by kernel_rfl, inferInstance⟩⟩
instance : FOff Tryz.prog 114 5 8 := ⟨⟨_, _, Tryz.t113, Tryz.underlying114, rfl, rfl, by kernel_rfl, by decide⟩⟩
instance : FTy Tryz.prog 114 5 8 true 4 := ⟨⟨_, _, 113, Tryz.underlying114, rfl, rfl, by kernel_rfl, inferInstance⟩⟩
instance : StructT Tryz.prog 114 := ⟨⟨_, Tryz.underlying114, by kernel_rfl⟩⟩
instance : HasT Tryz.prog 114 := ⟨⟨_, Tryz.underlying114⟩⟩
instance : ElT Tryz.prog 114 12 := ⟨⟨Tryz.t114, (.agg [.pointer none, .int .i64 0, .slice none 0 0, .slice none 0 0, .int .i64 0, .int .i64 0, .int .i64 0, .int .i64 0, .int .i64 0, .int .i64 0, .int .i64 0, .int .i64 0].toArray : Value), by kernel_rfl, by kernel_rfl, by kernel_rfl, by kernel_rfl, by decide, by decide⟩⟩
instance : ZeroT Tryz.prog 114 (.agg [.pointer none, .int .i64 0, .slice none 0 0, .slice none 0 0, .int .i64 0, .int .i64 0, .int .i64 0, .int .i64 0, .int .i64 0, .int .i64 0, .int .i64 0, .int .i64 0].toArray) := ⟨⟨Tryz.t114, by kernel_rfl, by kernel_rfl⟩⟩
instance : TySz Tryz.prog 115 true 12 := ⟨⟨Tryz.t115, _, by kernel_rfl, by kernel_rfl, Tryz.underlying115, by kernel_rfl⟩⟩
instance : FOff Tryz.prog 115 0 0 := ⟨⟨_, _, Tryz.t26, Tryz.underlying115, rfl, rfl, by kernel_rfl, by decide⟩⟩
instance : FTy Tryz.prog 115 0 0 false 1 := ⟨⟨_, _, 26, Tryz.underlying115, rfl, rfl, by kernel_rfl, inferInstance⟩⟩
instance : FOff Tryz.prog 115 1 1 := ⟨⟨_, _, Tryz.t3, Tryz.underlying115, rfl, rfl, by kernel_rfl, by decide⟩⟩
instance : FTy Tryz.prog 115 1 1 false 1 := ⟨⟨_, _, 3, Tryz.underlying115, rfl, rfl, by kernel_rfl, inferInstance⟩⟩
instance : FOff Tryz.prog 115 2 2 := ⟨⟨_, _, Tryz.t111, Tryz.underlying115, rfl, rfl, by kernel_rfl, by decide⟩⟩
instance : FTy Tryz.prog 115 2 2 false 1 := ⟨⟨_, _, 111, Tryz.underlying115, rfl, rfl, by kernel_rfl, inferInstance⟩⟩
instance : FOff Tryz.prog 115 3 3 := ⟨⟨_, _, Tryz.t112, Tryz.underlying115, rfl, rfl, by kernel_rfl, by decide⟩⟩
instance : FTy Tryz.prog 115 3 3 false 1 := ⟨⟨_, _, 112, Tryz.underlying115, rfl, rfl, by kernel_rfl, inferInstance⟩⟩
instance : FOff Tryz.prog 115 4 4 := ⟨⟨_, _, Tryz.t113, Tryz.underlying115, rfl, rfl, by kernel_rfl, by decide⟩⟩
instance : FTy Tryz.prog 115 4 4 true 4 := ⟨⟨_, _, 113, Tryz.underlying115, rfl, rfl, by kernel_rfl, inferInstance⟩⟩
instance : FOff Tryz.prog 115 5 8 := ⟨⟨_, _, Tryz.t113, Tryz.underlying115, rfl, rfl, by kernel_rfl, by decide⟩⟩
instance : FTy Tryz.prog 115 5 8 true 4 := ⟨⟨_, _, 113, Tryz.underlying115, rfl, rfl, by kernel_rfl, inferInstance⟩⟩
instance : FieldsL Tryz.prog 115 [(26, 0, 1), (3, 1, 1), (111, 2, 1), (112, 3, 1), (113, 4, 4), (113, 8, 4)] 12 := ⟨⟨_, Tryz.underlying115, by kernel_rfl, by kernel_rfl⟩⟩
instance : StructT Tryz.prog 115 := ⟨⟨_, Tryz.underlying115, by kernel_rfl⟩⟩
instance : HasT Tryz.prog 115 := ⟨⟨_, Tryz.underlying115⟩⟩
instance : ElT Tryz.prog 115 12 := ⟨⟨Tryz.t115, (.agg [.pointer none, .int .i64 0, .slice none 0 0, .slice none 0 0, .int .i64 0, .int .i64 0, .int .i64 0, .int .i64 0, .int .i64 0, .int .i64 0, .int .i64 0, .int .i64 0].toArray : Value), by kernel_rfl, by kernel_rfl, by kernel_rfl, by kernel_rfl, by decide, by decide⟩⟩
instance : ZeroT Tryz.prog 115 (.agg [.pointer none, .int .i64 0, .slice none 0 0, .slice none 0 0, .int .i64 0, .int .i64 0, .int .i64 0, .int .i64 0, .int .i64 0, .int .i64 0, .int .i64 0, .int .i64 0].toArray) := ⟨⟨Tryz.t115, by kernel_rfl, by kernel_rfl⟩⟩
instance : TySz Tryz.prog 117 false 1 := ⟨⟨Tryz.t117, _, by kernel_rfl, by kernel_rfl, Tryz.underlying117, by kernel_rfl⟩⟩
instance : SliT Tryz.prog 117 240 := ⟨Tryz.underlying117⟩
instance : HasT Tryz.prog 117 := ⟨⟨_, Tryz.underlying117⟩⟩
instance : ElT Tryz.prog 117 1 := ⟨⟨Tryz.t117, (.slice none 0 0 : Value), by kernel_rfl, by kernel_rfl, by kernel_rfl, by kernel_rfl, by decide, by decide⟩⟩
instance : ZeroT Tryz.prog 117 (.slice none 0 0) := ⟨⟨Tryz.t117, by kernel_rfl, by kernel_rfl⟩⟩
instance : TySz Tryz.prog 118 true 3 := ⟨⟨Tryz.t118, _, by kernel_rfl, by kernel_rfl, Tryz.underlying118, by kernel_rfl⟩⟩
instance : FOff Tryz.prog 118 0 0 := ⟨⟨_, _, Tryz.t3, Tryz.underlying118, rfl, rfl, by kernel_rfl, by decide⟩⟩
instance : FTy Tryz.prog 118 0 0 false 1 := ⟨⟨_, _, 3, Tryz.underlying118, rfl, rfl, by kernel_rfl, inferInstance⟩⟩
instance : FOff Tryz.prog 118 1 1 := ⟨⟨_, _, Tryz.t117, Tryz.underlying118, rfl, rfl, by kernel_rfl, by decide⟩⟩
instance : FTy Tryz.prog 118 1 1 false 1 := ⟨⟨_, _, 117, Tryz.underlying118, rfl, rfl, by kernel_rfl, inferInstance⟩⟩
instance : FOff Tryz.prog 118 2 2 := ⟨⟨_, _, Tryz.t108, Tryz.underlying118, rfl, rfl, by kernel_rfl, by decide⟩⟩
instance : FTy Tryz.prog 118 2 2 false 1 := ⟨⟨_, _, 108, Tryz.underlying118, rfl, rfl, by kernel_rfl, inferInstance⟩⟩
instance : StructT Tryz.prog 118 := ⟨⟨_, Tryz.underlying118, by kernel_rfl⟩⟩
instance : HasT Tryz.prog 118 := ⟨⟨_, Tryz.underlying118⟩⟩
instance : ElT Tryz.prog 118 3 := ⟨⟨Tryz.t118, (.agg [.int .i64 0, .slice none 0 0, .slice none 0 0].toArray : Value), by kernel_rfl, by kernel_rfl, by kernel_rfl, by kernel_rfl, by decide, by decide⟩⟩
instance : ZeroT Tryz.prog 118 (.agg [.int .i64 0, .slice none 0 0, .slice none 0 0].toArray) := ⟨⟨Tryz.t118, by kernel_rfl, by kernel_rfl⟩⟩
instance : TySz Tryz.prog 119 true 3 := ⟨⟨Tryz.t119, _, by kernel_rfl, by kernel_rfl, Tryz.underlying119, by kernel_rfl⟩⟩
instance : FOff Tryz.prog 119 0 0 := ⟨⟨_, _, Tryz.t3, Tryz.underlying119, rfl, rfl, by kernel_rfl, by decide⟩⟩
instance : FTy Tryz.prog 119 0 0 false 1 := ⟨⟨_, _, 3, Tryz.underlying119, rfl, rfl, by kernel_rfl, inferInstance⟩⟩
instance : FOff Tryz.prog 119 1 1 := ⟨⟨_, _, Tryz.t117, Tryz.underlying119, rfl, rfl, by kernel_rfl, by decide⟩⟩
instance : FTy Tryz.prog 119 1 1 false 1 := ⟨⟨_, _, 117, Tryz.underlying119, rfl, rfl, by kernel_rfl, inferInstance⟩⟩
instance : FOff Tryz.prog 119 2 2 := ⟨⟨_, _, Tryz.t108, Tryz.underlying119, rfl, rfl, by kernel_rfl, by decide⟩⟩
instance : FTy Tryz.prog 119 2 2 false 1 := ⟨⟨_, _, 108, Tryz.underlying119, rfl, rfl, by kernel_rfl, inferInstance⟩⟩
instance : FieldsL Tryz.prog 119 [(3, 0, 1), (117, 1, 1), (108, 2, 1)] 3 := ⟨⟨_, Tryz.underlying119, by kernel_rfl, by kernel_rfl⟩⟩
instance : StructT Tryz.prog 119 := ⟨⟨_, Tryz.underlying119, by kernel_rfl⟩⟩
instance : HasT Tryz.prog 119 := ⟨⟨_, Tryz.underlying119⟩⟩
instance : ElT Tryz.prog 119 3 := ⟨⟨Tryz.t119, (.agg [.int .i64 0, .slice none 0 0, .slice none 0 0].toArray : Value), by kernel_rfl, by kernel_rfl, by kernel_rfl, by kernel_rfl, by decide, by decide⟩⟩
instance : ZeroT Tryz.prog 119 (.agg [.int .i64 0, .slice none 0 0, .slice none 0 0].toArray) := ⟨⟨Tryz.t119, by kernel_rfl, by kernel_rfl⟩⟩
instance : TySz Tryz.prog 120 true 4 := ⟨⟨Tryz.t120, _, by kernel_rfl, by kernel_rfl, Tryz.underlying120, by kernel_rfl⟩⟩
instance : FOff Tryz.prog 120 0 0 := ⟨⟨_, _, Tryz.t33, Tryz.underlying120, rfl, rfl, by kernel_rfl, by decide⟩⟩
instance : FTy Tryz.prog 120 0 0 false 1 := ⟨⟨_, _, 33, Tryz.underlying120, rfl, rfl, by kernel_rfl, inferInstance⟩⟩
instance : FOff Tryz.prog 120 1 1 := ⟨⟨_, _, Tryz.t3, Tryz.underlying120, rfl, rfl, by kernel_rfl, by decide⟩⟩
instance : FTy Tryz.prog 120 1 1 false 1 := ⟨⟨_, _, 3, Tryz.underlying120, rfl, rfl, by kernel_rfl, inferInstance⟩⟩
instance : FOff Tryz.prog 120 2 2 := ⟨⟨_, _, Tryz.t3, Tryz.underlying120, rfl, rfl, by kernel_rfl, by decide⟩⟩
instance : FTy Tryz.prog 120 2 2 false 1 := ⟨⟨_, _, 3, Tryz.underlying120, rfl, rfl, by kernel_rfl, inferInstance⟩⟩
instance : FOff Tryz.prog 120 3 3 := ⟨⟨_, _, Tryz.t3, Tryz.underlying120, rfl, rfl, by kernel_rfl, by decide⟩⟩
instance : FTy Tryz.prog 120 3 3 false 1 := ⟨⟨_, _, 3, Tryz.underlying120, rfl, rfl, by kernel_rfl, inferInstance⟩⟩
instance : StructT Tryz.prog 120 := ⟨⟨_, Tryz.underlying120, by kernel_rfl⟩⟩
instance : HasT Tryz.prog 120 := ⟨⟨_, Tryz.underlying120⟩⟩
instance : ElT Tryz.prog 120 4 := ⟨⟨Tryz.t120, (.agg [.pointer none, .int .i64 0, .int .i64 0, .int .i64 0].toArray : Value), by kernel_rfl, by kernel_rfl, by kernel_rfl, by kernel_rfl, by decide, by decide⟩⟩
instance : ZeroT Tryz.prog 120 (.agg [.pointer none, .int .i64 0, .int .i64 0, .int .i64 0].toArray) := ⟨⟨Tryz.t120, by kernel_rfl, by kernel_rfl⟩⟩
instance : TySz Tryz.prog 121 true 4 := ⟨⟨Tryz.t121, _, by kernel_rfl, by kernel_rfl, Tryz.underlying121, by kernel_rfl⟩⟩
instance : FOff Tryz.prog 121 0 0 := ⟨⟨_, _, Tryz.t33, Tryz.underlying121, rfl, rfl, by kernel_rfl, by decide⟩⟩
instance : FTy Tryz.prog 121 0 0 false 1 := ⟨⟨_, _, 33, Tryz.underlying121, rfl, rfl, by kernel_rfl, inferInstance⟩⟩
instance : FOff Tryz.prog 121 1 1 := ⟨⟨_, _, Tryz.t3, Tryz.underlying121, rfl, rfl, by kernel_rfl, by decide⟩⟩
instance : FTy Tryz.prog 121 1 1 false 1 := ⟨⟨_, _, 3, Tryz.underlying121, rfl, rfl, by kernel_rfl, inferInstance⟩⟩
instance : FOff Tryz.prog 121 2 2 := ⟨⟨_, _, Tryz.t3, Tryz.underlying121, rfl, rfl, by kernel_rfl, by decide⟩⟩
instance : FTy Tryz.prog 121 2 2 false 1 := ⟨⟨_, _, 3, Tryz.underlying121, rfl, rfl, by kernel_rfl, inferInstance⟩⟩
instance : FOff Tryz.prog 121 3 3 := ⟨⟨_, _, Tryz.t3, Tryz.underlying121, rfl, rfl, by kernel_rfl, by decide⟩⟩
instance : FTy Tryz.prog 121 3 3 false 1 := ⟨⟨_, _, 3, Tryz.underlying121, rfl, rfl, by kernel_rfl, inferInstance⟩⟩
instance : FieldsL Tryz.prog 121 [(33, 0, 1), (3, 1, 1), (3, 2, 1), (3, 3, 1)] 4 := ⟨⟨_, Tryz.underlying121, by kernel_rfl, by kernel_rfl⟩⟩
instance : StructT Tryz.prog 121 := ⟨⟨_, Tryz.underlying121, by kernel_rfl⟩⟩
instance : HasT Tryz.prog 121 := ⟨⟨_, Tryz.underlying121⟩⟩
instance : ElT Tryz.prog 121 4 := ⟨⟨Tryz.t121, (.agg [.pointer none, .int .i64 0, .int .i64 0, .int .i64 0].toArray : Value), by kernel_rfl, by kernel_rfl, by kernel_rfl, by kernel_rfl, by decide, by decide⟩⟩
instance : ZeroT Tryz.prog 121 (.agg [.pointer none, .int .i64 0, .int .i64 0, .int .i64 0].toArray) := ⟨⟨Tryz.t121, by kernel_rfl, by kernel_rfl⟩⟩
instance : TySz Tryz.prog 122 true 2 := ⟨⟨Tryz.t122, _, by kernel_rfl, by kernel_rfl, Tryz.underlying122, by kernel_rfl⟩⟩
instance : FOff Tryz.prog 122 0 0 := ⟨⟨_, _, Tryz.t30, Tryz.underlying122, rfl, rfl, by kernel_rfl, by decide⟩⟩
instance : FTy Tryz.prog 122 0 0 false 1 := ⟨⟨_, _, 30, Tryz.underlying122, rfl, rfl, by kernel_rfl, inferInstance⟩⟩
instance : FOff Tryz.prog 122 1 1 := ⟨⟨_, _, Tryz.t36, Tryz.underlying122, rfl, rfl, by kernel_rfl, by decide⟩⟩
instance : FTy Tryz.prog 122 1 1 false 1 := ⟨⟨_, _, 36, Tryz.underlying122, rfl, rfl, by kernel_rfl, inferInstance⟩⟩
instance : StructT Tryz.prog 122 := ⟨⟨_, Tryz.underlying122, by kernel_rfl⟩⟩
instance : HasT Tryz.prog 122 := ⟨⟨_, Tryz.underlying122⟩⟩
instance : ElT Tryz.prog 122 2 := ⟨⟨Tryz.t122, (.agg [.pointer none, .pointer none].toArray : Value), by kernel_rfl, by kernel_rfl, by kernel_rfl, by kernel_rfl, by decide, by decide⟩⟩
instance : ZeroT Tryz.prog 122 (.agg [.pointer none, .pointer none].toArray) := ⟨⟨Tryz.t122, by kernel_rfl, by kernel_rfl⟩⟩
instance : TySz Tryz.prog 123 true 2 := ⟨⟨Tryz.t123, _, by kernel_rfl, by kernel_rfl, Tryz.underlying123, by kernel_rfl⟩⟩
instance : FOff Tryz.prog 123 0 0 := ⟨⟨_, _, Tryz.t30, Tryz.underlying123, rfl, rfl, by kernel_rfl, by decide⟩⟩
instance : FTy Tryz.prog 123 0 0 false 1 := ⟨⟨_, _, 30, Tryz.underlying123, rfl, rfl, by kernel_rfl, inferInstance⟩⟩
instance : FOff Tryz.prog 123 1 1 := ⟨⟨_, _, Tryz.t36, Tryz.underlying123, rfl, rfl, by kernel_rfl, by decide⟩⟩
instance : FTy Tryz.prog 123 1 1 false 1 := ⟨⟨_, _, 36, Tryz.underlying123, rfl, rfl, by kernel_rfl, inferInstance⟩⟩
instance : FieldsL Tryz.prog 123 [(30, 0, 1), (36, 1, 1)] 2 := ⟨⟨_, Tryz.underlying123, by kernel_rfl, by kernel_rfl⟩⟩
instance : StructT Tryz.prog 123 := ⟨⟨_, Tryz.underlying123, by kernel_rfl⟩⟩
instance : HasT Tryz.prog 123 := ⟨⟨_, Tryz.underlying123⟩⟩
instance : ElT Tryz.prog 123 2 := ⟨⟨Tryz.t123, (.agg [.pointer none, .pointer none].toArray : Value), by kernel_rfl, by kernel_rfl, by kernel_rfl, by kernel_rfl, by decide, by decide⟩⟩
instance : ZeroT Tryz.prog 123 (.agg [.pointer none, .pointer none].toArray) := ⟨⟨Tryz.t123, by kernel_rfl, by kernel_rfl⟩⟩
instance : TySz Tryz.prog 125 true 2 := ⟨⟨Tryz.t125, _, by kernel_rfl, by kernel_rfl, Tryz.underlying125, by kernel_rfl⟩⟩
instance : FOff Tryz.prog 125 0 0 := ⟨⟨_, _, Tryz.t9, Tryz.underlying125, rfl, rfl, by kernel_rfl, by decide⟩⟩
instance : FTy Tryz.prog 125 0 0 false 1 := ⟨⟨_, _, 9, Tryz.underlying125, rfl, rfl, by kernel_rfl, inferInstance⟩⟩
instance : FOff Tryz.prog 125 1 1 := ⟨⟨_, _, Tryz.t3, Tryz.underlying125, rfl, rfl, by kernel_rfl, by decide⟩⟩
instance : FTy Tryz.prog 125 1 1 false 1 := ⟨⟨_, _, 3, Tryz.underlying125, rfl, rfl, by kernel_rfl, inferInstance⟩⟩
instance : StructT Tryz.prog 125 := ⟨⟨_, Tryz.underlying125, by kernel_rfl⟩⟩
instance : HasT Tryz.prog 125 := ⟨⟨_, Tryz.underlying125⟩⟩
instance : ElT Tryz.prog 125 2 := ⟨⟨Tryz.t125, (.agg [.string ByteArray.empty, .int .i64 0].toArray : Value), by kernel_rfl, by kernel_rfl, by kernel_rfl, by kernel_rfl, by decide, by decide⟩⟩
instance : ZeroT Tryz.prog 125 (.agg [.string ByteArray.empty, .int .i64 0].toArray) := ⟨⟨Tryz.t125, by kernel_rfl, by kernel_rfl⟩⟩
instance : TySz Tryz.prog 126 true 2 := ⟨⟨Tryz.t126, _, by kernel_rfl, by kernel_rfl, Tryz.underlying126, by kernel_rfl⟩⟩
instance : FOff Tryz.prog 126 0 0 := ⟨⟨_, _, Tryz.t9, Tryz.underlying126, rfl, rfl, by kernel_rfl, by decide⟩⟩
instance : FTy Tryz.prog 126 0 0 false 1 := ⟨⟨_, _, 9, Tryz.underlying126, rfl, rfl, by kernel_rfl, inferInstance⟩⟩
instance : FOff Tryz.prog 126 1 1 := ⟨⟨_, _, Tryz.t3, Tryz.underlying126, rfl, rfl, by kernel_rfl, by decide⟩⟩
instance : FTy Tryz.prog 126 1 1 false 1 := ⟨⟨_, _, 3, Tryz.underlying126, rfl, rfl, by kernel_rfl, inferInstance⟩⟩
instance : FieldsT Tryz.prog 126 [(9, 0), (3, 1)] := ⟨⟨_, Tryz.underlying126, by kernel_rfl, by kernel_rfl, by kernel_rfl, by kernel_rfl⟩⟩
instance : FieldsL Tryz.prog 126 [(9, 0, 1), (3, 1, 1)] 2 := ⟨⟨_, Tryz.underlying126, by kernel_rfl, by kernel_rfl⟩⟩
instance : StructT Tryz.prog 126 := ⟨⟨_, Tryz.underlying126, by kernel_rfl⟩⟩
instance : HasT Tryz.prog 126 := ⟨⟨_, Tryz.underlying126⟩⟩
instance : ElT Tryz.prog 126 2 := ⟨⟨Tryz.t126, (.agg [.string ByteArray.empty, .int .i64 0].toArray : Value), by kernel_rfl, by kernel_rfl, by kernel_rfl, by kernel_rfl, by decide, by decide⟩⟩
instance : ZeroT Tryz.prog 126 (.agg [.string ByteArray.empty, .int .i64 0].toArray) := ⟨⟨Tryz.t126, by kernel_rfl, by kernel_rfl⟩⟩
instance : TySz Tryz.prog 127 false 1 := ⟨⟨Tryz.t127, _, by kernel_rfl, by kernel_rfl, Tryz.underlying127, by kernel_rfl⟩⟩
instance : PtrT Tryz.prog 127 := ⟨⟨_, Tryz.t145, Tryz.underlying127, by kernel_rfl, by decide⟩⟩
instance : HasT Tryz.prog 127 := ⟨⟨_, Tryz.underlying127⟩⟩
instance : ElT Tryz.prog 127 1 := ⟨⟨Tryz.t127, (.pointer none : Value), by kernel_rfl, by kernel_rfl, by kernel_rfl, by kernel_rfl, by decide, by decide⟩⟩
instance : ZeroT Tryz.prog 127 (.pointer none) := ⟨⟨Tryz.t127, by kernel_rfl, by kernel_rfl⟩⟩
instance : TySz Tryz.prog 130 false 1 := ⟨⟨Tryz.t130, _, by kernel_rfl, by kernel_rfl, Tryz.underlying130, by kernel_rfl⟩⟩
instance : SliT Tryz.prog 130 222 := ⟨Tryz.underlying130⟩
instance : HasT Tryz.prog 130 := ⟨⟨_, Tryz.underlying130⟩⟩
instance : ElT Tryz.prog 130 1 := ⟨⟨Tryz.t130, (.slice none 0 0 : Value), by kernel_rfl, by kernel_rfl, by kernel_rfl, by kernel_rfl, by decide, by decide⟩⟩
instance : ZeroT Tryz.prog 130 (.slice none 0 0) := ⟨⟨Tryz.t130, by kernel_rfl, by kernel_rfl⟩⟩
instance : TySz Tryz.prog 131 false 1 := ⟨⟨Tryz.t131, _, by kernel_rfl, by kernel_rfl, Tryz.underlying131, by kernel_rfl⟩⟩
instance : SliT Tryz.prog 131 4 := ⟨Tryz.underlying131⟩
instance : HasT Tryz.prog 131 := ⟨⟨_, Tryz.underlying131⟩⟩
instance : ElT Tryz.prog 131 1 := ⟨⟨Tryz.t131, (.slice none 0 0 : Value), by kernel_rfl, by kernel_rfl, by kernel_rfl, by kernel_rfl, by decide, by decide⟩⟩
instance : ZeroT Tryz.prog 131 (.slice none 0 0) := ⟨⟨Tryz.t131, by kernel_rfl, by kernel_rfl⟩⟩
instance : TySz Tryz.prog 132 true 6 := ⟨⟨Tryz.t132, _, by kernel_rfl, by kernel_rfl, Tryz.underlying132, by kernel_rfl⟩⟩
instance : FOff Tryz.prog 132 0 0 := ⟨⟨_, _, Tryz.t127, Tryz.underlying132, rfl, rfl, by kernel_rfl, by decide⟩⟩
instance : FTy Tryz.prog 132 0 0 false 1 := ⟨⟨_, _, 127, Tryz.underlying132, rfl, rfl, by kernel_rfl, inferInstance⟩⟩
instance : FOff Tryz.prog 132 1 1 := ⟨⟨_, _, Tryz.t112, Tryz.underlying132, rfl, rfl, by kernel_rfl, by decide⟩⟩
instance : FTy Tryz.prog 132 1 1 false 1 := ⟨⟨_, _, 112, Tryz.underlying132, rfl, rfl, by kernel_rfl, inferInstance⟩⟩
instance : FOff Tryz.prog 132 2 2 := ⟨⟨_, _, Tryz.t112, Tryz.underlying132, rfl, rfl, by kernel_rfl, by decide⟩⟩
instance : FTy Tryz.prog 132 2 2 false 1 := ⟨⟨_, _, 112, Tryz.underlying132, rfl, rfl, by kernel_rfl, inferInstance⟩⟩
instance : FOff Tryz.prog 132 3 3 := ⟨⟨_, _, Tryz.t130, Tryz.underlying132, rfl, rfl, by kernel_rfl, by decide⟩⟩
instance : FTy Tryz.prog 132 3 3 false 1 := ⟨⟨_, _, 130, Tryz.underlying132, rfl, rfl, by kernel_rfl, inferInstance⟩⟩
instance : FOff Tryz.prog 132 4 4 := ⟨⟨_, _, Tryz.t112, Tryz.underlying132, rfl, rfl, by kernel_rfl, by decide⟩⟩
instance : FTy Tryz.prog 132 4 4 false 1 := ⟨⟨_, _, 112, Tryz.underlying132, rfl, rfl, by kernel_rfl, inferInstance⟩⟩
instance : FOff Tryz.prog 132 5 5 := ⟨⟨_, _, Tryz.t131, Tryz.underlying132, rfl, rfl, by kernel_rfl, by decide⟩⟩
instance : FTy Tryz.prog 132 5 5 false 1 := ⟨⟨_, _, 131, Tryz.underlying132, rfl, rfl, by kernel_rfl, inferInstance⟩⟩
instance : StructT Tryz.prog 132 := ⟨⟨_, Tryz.underlying132, by kernel_rfl⟩⟩
instance : HasT Tryz.prog 132 := ⟨⟨_, Tryz.underlying132⟩⟩
instance : ElT Tryz.prog 132 6 := ⟨⟨Tryz.t132, (.agg [.pointer none, .slice none 0 0, .slice none 0 0, .slice none 0 0, .slice none 0 0, .slice none 0 0].toArray : Value), by kernel_rfl, by kernel_rfl, by kernel_rfl, by kernel_rfl, by decide, by decide⟩⟩
instance : ZeroT Tryz.prog 132 (.agg [.pointer none, .slice none 0 0, .slice none 0 0, .slice none 0 0, .slice none 0 0, .slice none 0 0].toArray) := ⟨⟨Tryz.t132, by kernel_rfl, by kernel_rfl⟩⟩
instance : TySz Tryz.prog 133 true 6 := ⟨⟨Tryz.t133, _, by kernel_rfl, by kernel_rfl, Tryz.underlying133, by kernel_rfl⟩⟩
instance : FOff Tryz.prog 133 0 0 := ⟨⟨_, _, Tryz.t127, Tryz.underlying133, rfl, rfl, by kernel_rfl, by decide⟩⟩
instance : FTy Tryz.prog 133 0 0 false 1 := ⟨⟨_, _, 127, Tryz.underlying133, rfl, rfl, by kernel_rfl, inferInstance⟩⟩
instance : FOff Tryz.prog 133 1 1 := ⟨⟨_, _, Tryz.t112, Tryz.underlying133, rfl, rfl, by kernel_rfl, by decide⟩⟩
instance : FTy Tryz.prog 133 1 1 false 1 := ⟨⟨_, _, 112, Tryz.underlying133, rfl, rfl, by kernel_rfl, inferInstance⟩⟩
instance : FOff Tryz.prog 133 2 2 := ⟨⟨_, _, Tryz.t112, Tryz.underlying133, rfl, rfl, by kernel_rfl, by decide⟩⟩
instance : FTy Tryz.prog 133 2 2 false 1 := ⟨⟨_, _, 112, Tryz.underlying133, rfl, rfl, by kernel_rfl, inferInstance⟩⟩
instance : FOff Tryz.prog 133 3 3 := ⟨⟨_, _, Tryz.t130, Tryz.underlying133, rfl, rfl, by kernel_rfl, by decide⟩⟩
instance : FTy Tryz.prog 133 3 3 false 1 := ⟨⟨_, _, 130, Tryz.underlying133, rfl, rfl, by kernel_rfl, inferInstance⟩⟩
instance : FOff Tryz.prog 133 4 4 := ⟨⟨_, _, Tryz.t112, Tryz.underlying133, rfl, rfl, by kernel_rfl, by decide⟩⟩
instance : FTy Tryz.prog 133 4 4 false 1 := ⟨⟨_, _, 112, Tryz.underlying133, rfl, rfl, by kernel_rfl, inferInstance⟩⟩
instance : FOff Tryz.prog 133 5 5 := ⟨⟨_, _, Tryz.t131, Tryz.underlying133, rfl, rfl, by kernel_rfl, by decide⟩⟩
instance : FTy Tryz.prog 133 5 5 false 1 := ⟨⟨_, _, 131, Tryz.underlying133, rfl, rfl, by kernel_rfl, inferInstance⟩⟩
instance : FieldsL Tryz.prog 133 [(127, 0, 1), (112, 1, 1), (112, 2, 1), (130, 3, 1), (112, 4, 1), (131, 5, 1)] 6 := ⟨⟨_, Tryz.underlying133, by kernel_rfl, by kernel_rfl⟩⟩
instance : StructT Tryz.prog 133 := ⟨⟨_, Tryz.underlying133, by kernel_rfl⟩⟩
instance : HasT Tryz.prog 133 := ⟨⟨_, Tryz.underlying133⟩⟩
instance : ElT Tryz.prog 133 6 := ⟨⟨Tryz.t133, (.agg [.pointer none, .slice none 0 0, .slice none 0 0, .slice none 0 0, .slice none 0 0, .slice none 0 0].toArray : Value), by kernel_rfl, by kernel_rfl, by kernel_rfl, by kernel_rfl, by decide, by decide⟩⟩
instance : ZeroT Tryz.prog 133 (.agg [.pointer none, .slice none 0 0, .slice none 0 0, .slice none 0 0, .slice none 0 0, .slice none 0 0].toArray) := ⟨⟨Tryz.t133, by kernel_rfl, by kernel_rfl⟩⟩
instance : TySz Tryz.prog 143 false 1 := ⟨⟨Tryz.t143, _, by kernel_rfl, by kernel_rfl, Tryz.underlying143, by kernel_rfl⟩⟩
instance : SliT Tryz.prog 143 146 := ⟨Tryz.underlying143⟩
instance : HasT Tryz.prog 143 := ⟨⟨_, Tryz.underlying143⟩⟩
instance : ElT Tryz.prog 143 1 := ⟨⟨Tryz.t143, (.slice none 0 0 : Value), by kernel_rfl, by kernel_rfl, by kernel_rfl, by kernel_rfl, by decide, by decide⟩⟩
instance : ZeroT Tryz.prog 143 (.slice none 0 0) := ⟨⟨Tryz.t143, by kernel_rfl, by kernel_rfl⟩⟩
instance : TySz Tryz.prog 144 true 5 := ⟨⟨Tryz.t144, _, by kernel_rfl, by kernel_rfl, Tryz.underlying144, by kernel_rfl⟩⟩
instance : FOff Tryz.prog 144 0 0 := ⟨⟨_, _, Tryz.t25, Tryz.underlying144, rfl, rfl, by kernel_rfl, by decide⟩⟩
instance : FTy Tryz.prog 144 0 0 true 4 := ⟨⟨_, _, 25, Tryz.underlying144, rfl, rfl, by kernel_rfl, inferInstance⟩⟩
instance : FOff Tryz.prog 144 1 4 := ⟨⟨_, _, Tryz.t143, Tryz.underlying144, rfl, rfl, by kernel_rfl, by decide⟩⟩
instance : FTy Tryz.prog 144 1 4 false 1 := ⟨⟨_, _, 143, Tryz.underlying144, rfl, rfl, by kernel_rfl, inferInstance⟩⟩
instance : StructT Tryz.prog 144 := ⟨⟨_, Tryz.underlying144, by kernel_rfl⟩⟩
instance : HasT Tryz.prog 144 := ⟨⟨_, Tryz.underlying144⟩⟩
instance : ElT Tryz.prog 144 5 := ⟨⟨Tryz.t144, (.agg [.slice none 0 0, .slice none 0 0, .int .i64 0, .int .i64 0, .slice none 0 0].toArray : Value), by kernel_rfl, by kernel_rfl, by kernel_rfl, by kernel_rfl, by decide, by decide⟩⟩
instance : ZeroT Tryz.prog 144 (.agg [.slice none 0 0, .slice none 0 0, .int .i64 0, .int .i64 0, .slice none 0 0].toArray) := ⟨⟨Tryz.t144, by kernel_rfl, by kernel_rfl⟩⟩
instance : TySz Tryz.prog 145 true 5 := ⟨⟨Tryz.t145, _, by kernel_rfl, by kernel_rfl, Tryz.underlying145, by kernel_rfl⟩⟩
instance : FOff Tryz.prog 145 0 0 := ⟨⟨_, _, Tryz.t25, Tryz.underlying145, rfl, rfl, by kernel_rfl, by decide⟩⟩
instance : FTy Tryz.prog 145 0 0 true 4 := ⟨⟨_, _, 25, Tryz.underlying145, rfl, rfl, by kernel_rfl, inferInstance⟩⟩
instance : FOff Tryz.prog 145 1 4 := ⟨⟨_, _, Tryz.t143, Tryz.underlying145, rfl, rfl, by kernel_rfl, by decide⟩⟩
instance : FTy Tryz.prog 145 1 4 false 1 := ⟨⟨_, _, 143, Tryz.underlying145, rfl, rfl, by kernel_rfl, inferInstance⟩⟩
instance : FieldsL Tryz.prog 145 [(25, 0, 4), (143, 4, 1)] 5 := ⟨⟨_, Tryz.underlying145, by kernel_rfl, by kernel_rfl⟩⟩
instance : StructT Tryz.prog 145 := ⟨⟨_, Tryz.underlying145, by kernel_rfl⟩⟩
instance : HasT Tryz.prog 145 := ⟨⟨_, Tryz.underlying145⟩⟩
instance : ElT Tryz.prog 145 5 := ⟨⟨Tryz.t145, (.agg [.slice none 0 0, .slice none 0 0, .int .i64 0, .int .i64 0, .slice none 0 0].toArray : Value), by kernel_rfl, by kernel_rfl, by kernel_rfl, by kernel_rfl, by decide, by decide⟩⟩
instance : ZeroT Tryz.prog 145 (.agg [.slice none 0 0, .slice none 0 0, .int .i64 0, .int .i64 0, .slice none 0 0].toArray) := ⟨⟨Tryz.t145, by kernel_rfl, by kernel_rfl⟩⟩
instance : TySz Tryz.prog 146 false 1 := ⟨⟨Tryz.t146, _, by kernel_rfl, by kernel_rfl, Tryz.underlying146, by kernel_rfl⟩⟩
instance : PtrT Tryz.prog 146 := ⟨⟨_, Tryz.t153, Tryz.underlying146, by kernel_rfl, by decide⟩⟩
instance : HasT Tryz.prog 146 := ⟨⟨_, Tryz.underlying146⟩⟩
instance : ElT Tryz.prog 146 1 := ⟨⟨Tryz.t146, (.pointer none : Value), by kernel_rfl, by kernel_rfl, by kernel_rfl, by kernel_rfl, by decide, by decide⟩⟩
instance : ZeroT Tryz.prog 146 (.pointer none) := ⟨⟨Tryz.t146, by kernel_rfl, by kernel_rfl⟩⟩
instance : TySz Tryz.prog 152 true 1 := ⟨⟨Tryz.t152, _, by kernel_rfl, by kernel_rfl, Tryz.underlying152, by kernel_rfl⟩⟩
instance : FOff Tryz.prog 152 0 0 := ⟨⟨_, _, Tryz.t99, Tryz.underlying152, rfl, rfl, by kernel_rfl, by decide⟩⟩
instance : FTy Tryz.prog 152 0 0 false 1 := ⟨⟨_, _, 99, Tryz.underlying152, rfl, rfl, by kernel_rfl, inferInstance⟩⟩
instance : StructT Tryz.prog 152 := ⟨⟨_, Tryz.underlying152, by kernel_rfl⟩⟩
instance : HasT Tryz.prog 152 := ⟨⟨_, Tryz.underlying152⟩⟩
instance : ElT Tryz.prog 152 1 := ⟨⟨Tryz.t152, (.agg [.slice none 0 0].toArray : Value), by kernel_rfl, by kernel_rfl, by kernel_rfl, by kernel_rfl, by decide, by decide⟩⟩
instance : ZeroT Tryz.prog 152 (.agg [.slice none 0 0].toArray) := ⟨⟨Tryz.t152, by kernel_rfl, by kernel_rfl⟩⟩
instance : TySz Tryz.prog 153 true 1 := ⟨⟨Tryz.t153, _, by kernel_rfl, by kernel_rfl, Tryz.underlying153, by kernel_rfl⟩⟩
instance : FOff Tryz.prog 153 0 0 := ⟨⟨_, _, Tryz.t99, Tryz.underlying153, rfl, rfl, by kernel_rfl, by decide⟩⟩
instance : FTy Tryz.prog 153 0 0 false 1 := ⟨⟨_, _, 99, Tryz.underlying153, rfl, rfl, by kernel_rfl, inferInstance⟩⟩
instance : FieldsL Tryz.prog 153 [(99, 0, 1)] 1 := ⟨⟨_, Tryz.underlying153, by kernel_rfl, by kernel_rfl⟩⟩
instance : StructT Tryz.prog 153 := ⟨⟨_, Tryz.underlying153, by kernel_rfl⟩⟩
instance : HasT Tryz.prog 153 := ⟨⟨_, Tryz.underlying153⟩⟩
instance : ElT Tryz.prog 153 1 := ⟨⟨Tryz.t153, (.agg [.slice none 0 0].toArray : Value), by kernel_rfl, by kernel_rfl, by kernel_rfl, by kernel_rfl, by decide, by decide⟩⟩
instance : ZeroT Tryz.prog 153 (.agg [.slice none 0 0].toArray) := ⟨⟨Tryz.t153, by kernel_rfl, by kernel_rfl⟩⟩
instance : TySz Tryz.prog 154 false 1 := ⟨⟨Tryz.t154, _, by kernel_rfl, by kernel_rfl, Tryz.underlying154, by kernel_rfl⟩⟩
instance : SliT Tryz.prog 154 162 := ⟨Tryz.underlying154⟩
instance : HasT Tryz.prog 154 := ⟨⟨_, Tryz.underlying154⟩⟩
instance : ElT Tryz.prog 154 1 := ⟨⟨Tryz.t154, (.slice none 0 0 : Value), by kernel_rfl, by kernel_rfl, by kernel_rfl, by kernel_rfl, by decide, by decide⟩⟩
instance : ZeroT Tryz.prog 154 (.slice none 0 0) := ⟨⟨Tryz.t154, by kernel_rfl, by kernel_rfl⟩⟩
instance : TySz Tryz.prog 157 false 1 := ⟨⟨Tryz.t157, _, by kernel_rfl, by kernel_rfl, Tryz.underlying157, by kernel_rfl⟩⟩
instance : SliT Tryz.prog 157 48 := ⟨Tryz.underlying157⟩
instance : HasT Tryz.prog 157 := ⟨⟨_, Tryz.underlying157⟩⟩
instance : ElT Tryz.prog 157 1 := ⟨⟨Tryz.t157, (.slice none 0 0 : Value), by kernel_rfl, by kernel_rfl, by kernel_rfl, by kernel_rfl, by decide, by decide⟩⟩
instance : ZeroT Tryz.prog 157 (.slice none 0 0) := ⟨⟨Tryz.t157, by kernel_rfl, by kernel_rfl⟩⟩
instance : TySz Tryz.prog 160 false 1 := ⟨⟨Tryz.t160, _, by kernel_rfl, by kernel_rfl, Tryz.underlying160, by kernel_rfl⟩⟩
instance : IntT Tryz.prog 160 .u64 := ⟨Tryz.underlying160⟩
instance : HasT Tryz.prog 160 := ⟨⟨_, Tryz.underlying160⟩⟩
instance : ElT Tryz.prog 160 1 := ⟨⟨Tryz.t160, (.int .u64 0 : Value), by kernel_rfl, by kernel_rfl, by kernel_rfl, by kernel_rfl, by decide, by decide⟩⟩
instance : ZeroT Tryz.prog 160 (.int .u64 0) := ⟨⟨Tryz.t160, by kernel_rfl, by kernel_rfl⟩⟩
instance : TySz Tryz.prog 161 true 2 := ⟨⟨Tryz.t161, _, by kernel_rfl, by kernel_rfl, Tryz.underlying161, by kernel_rfl⟩⟩
instance : FOff Tryz.prog 161 0 0 := ⟨⟨_, _, Tryz.t2, Tryz.underlying161, rfl, rfl, by kernel_rfl, by decide⟩⟩
instance : FTy Tryz.prog 161 0 0 false 1 := ⟨⟨_, _, 2, Tryz.underlying161, rfl, rfl, by kernel_rfl, inferInstance⟩⟩
instance : FOff Tryz.prog 161 1 1 := ⟨⟨_, _, Tryz.t160, Tryz.underlying161, rfl, rfl, by kernel_rfl, by decide⟩⟩
instance : FTy Tryz.prog 161 1 1 false 1 := ⟨⟨_, _, 160, Tryz.underlying161, rfl, rfl, by kernel_rfl, inferInstance⟩⟩
instance : StructT Tryz.prog 161 := ⟨⟨_, Tryz.underlying161, by kernel_rfl⟩⟩
instance : HasT Tryz.prog 161 := ⟨⟨_, Tryz.underlying161⟩⟩
instance : ElT Tryz.prog 161 2 := ⟨⟨Tryz.t161, (.agg [.int .i64 0, .int .u64 0].toArray : Value), by kernel_rfl, by kernel_rfl, by kernel_rfl, by kernel_rfl, by decide, by decide⟩⟩
instance : ZeroT Tryz.prog 161 (.agg [.int .i64 0, .int .u64 0].toArray) := ⟨⟨Tryz.t161, by kernel_rfl, by kernel_rfl⟩⟩
instance : TySz Tryz.prog 162 true 2 := ⟨⟨Tryz.t162, _, by kernel_rfl, by kernel_rfl, Tryz.underlying162, by kernel_rfl⟩⟩
instance : FOff Tryz.prog 162 0 0 := ⟨⟨_, _, Tryz.t2, Tryz.underlying162, rfl, rfl, by kernel_rfl, by decide⟩⟩
instance : FTy Tryz.prog 162 0 0 false 1 := ⟨⟨_, _, 2, Tryz.underlying162, rfl, rfl, by kernel_rfl, inferInstance⟩⟩
instance : FOff Tryz.prog 162 1 1 := ⟨⟨_, _, Tryz.t160, Tryz.underlying162, rfl, rfl, by kernel_rfl, by decide⟩⟩
instance : FTy Tryz.prog 162 1 1 false 1 := ⟨⟨_, _, 160, Tryz.underlying162, rfl, rfl, by kernel_rfl, inferInstance⟩⟩
instance : FieldsT Tryz.prog 162 [(2, 0), (160, 1)] := ⟨⟨_, Tryz.underlying162, by kernel_rfl, by kernel_rfl, by kernel_rfl, by kernel_rfl⟩⟩
instance : FieldsL Tryz.prog 162 [(2, 0, 1), (160, 1, 1)] 2 := ⟨⟨_, Tryz.underlying162, by kernel_rfl, by kernel_rfl⟩⟩
instance : StructT Tryz.prog 162 := ⟨⟨_, Tryz.underlying162, by kernel_rfl⟩⟩
instance : HasT Tryz.prog 162 := ⟨⟨_, Tryz.underlying162⟩⟩
instance : ElT Tryz.prog 162 2 := ⟨⟨Tryz.t162, (.agg [.int .i64 0, .int .u64 0].toArray : Value), by kernel_rfl, by kernel_rfl, by kernel_rfl, by kernel_rfl, by decide, by decide⟩⟩
instance : ZeroT Tryz.prog 162 (.agg [.int .i64 0, .int .u64 0].toArray) := ⟨⟨Tryz.t162, by kernel_rfl, by kernel_rfl⟩⟩
instance : TySz Tryz.prog 168 true 5 := ⟨⟨Tryz.t168, _, by kernel_rfl, by kernel_rfl, Tryz.underlying168, by kernel_rfl⟩⟩
instance : FOff Tryz.prog 168 0 0 := ⟨⟨_, _, Tryz.t30, Tryz.underlying168, rfl, rfl, by kernel_rfl, by decide⟩⟩
instance : FTy Tryz.prog 168 0 0 false 1 := ⟨⟨_, _, 30, Tryz.underlying168, rfl, rfl, by kernel_rfl, inferInstance⟩⟩
instance : FOff Tryz.prog 168 1 1 := ⟨⟨_, _, Tryz.t45, Tryz.underlying168, rfl, rfl, by kernel_rfl, by decide⟩⟩
instance : FTy Tryz.prog 168 1 1 false 1 := ⟨⟨_, _, 45, Tryz.underlying168, rfl, rfl, by kernel_rfl, inferInstance⟩⟩
instance : FOff Tryz.prog 168 2 2 := ⟨⟨_, _, Tryz.t154, Tryz.underlying168, rfl, rfl, by kernel_rfl, by decide⟩⟩
instance : FTy Tryz.prog 168 2 2 false 1 := ⟨⟨_, _, 154, Tryz.underlying168, rfl, rfl, by kernel_rfl, inferInstance⟩⟩
instance : FOff Tryz.prog 168 3 3 := ⟨⟨_, _, Tryz.t3, Tryz.underlying168, rfl, rfl, by kernel_rfl, by decide⟩⟩
instance : FTy Tryz.prog 168 3 3 false 1 := ⟨⟨_, _, 3, Tryz.underlying168, rfl, rfl, by kernel_rfl, inferInstance⟩⟩
instance : FOff Tryz.prog 168 4 4 := ⟨⟨_, _, Tryz.t3, Tryz.underlying168, rfl, rfl, by kernel_rfl, by decide⟩⟩
instance : FTy Tryz.prog 168 4 4 false 1 := ⟨⟨_, _, 3, Tryz.underlying168, rfl, rfl, by kernel_rfl, inferInstance⟩⟩
instance : StructT Tryz.prog 168 := ⟨⟨_, Tryz.underlying168, by kernel_rfl⟩⟩
instance : HasT Tryz.prog 168 := ⟨⟨_, Tryz.underlying168⟩⟩
instance : ElT Tryz.prog 168 5 := ⟨⟨Tryz.t168, (.agg [.pointer none, .slice none 0 0, .slice none 0 0, .int .i64 0, .int .i64 0].toArray : Value), by kernel_rfl, by kernel_rfl, by kernel_rfl, by kernel_rfl, by decide, by decide⟩⟩
instance : ZeroT Tryz.prog 168 (.agg [.pointer none, .slice none 0 0, .slice none 0 0, .int .i64 0, .int .i64 0].toArray) := ⟨⟨Tryz.t168, by kernel_rfl, by kernel_rfl⟩⟩
instance : TySz Tryz.prog 169 true 5 := ⟨⟨Tryz.t169, _, by kernel_rfl, by kernel_rfl, Tryz.underlying169, by kernel_rfl⟩⟩
instance : FOff Tryz.prog 169 0 0 := ⟨⟨_, _, Tryz.t30, Tryz.underlying169, rfl, rfl, by kernel_rfl, by decide⟩⟩
instance : FTy Tryz.prog 169 0 0 false 1 := ⟨⟨_, _, 30, Tryz.underlying169, rfl, rfl, by kernel_rfl, inferInstance⟩⟩
instance : FOff Tryz.prog 169 1 1 := ⟨⟨_, _, Tryz.t45, Tryz.underlying169, rfl, rfl, by kernel_rfl, by decide⟩⟩
instance : FTy Tryz.prog 169 1 1 false 1 := ⟨⟨_, _, 45, Tryz.underlying169, rfl, rfl, by kernel_rfl, inferInstance⟩⟩
instance : FOff Tryz.prog 169 2 2 := ⟨⟨_, _, Tryz.t154, Tryz.underlying169, rfl, rfl, by kernel_rfl, by decide⟩⟩
instance : FTy Tryz.prog 169 2 2 false 1 := ⟨⟨_, _, 154, Tryz.underlying169, rfl, rfl, by kernel_rfl, inferInstance⟩⟩
instance : FOff Tryz.prog 169 3 3 := ⟨⟨_, _, Tryz.t3, Tryz.underlying169, rfl, rfl, by kernel_rfl, by decide⟩⟩
instance : FTy Tryz.prog 169 3 3 false 1 := ⟨⟨_, _, 3, Tryz.underlying169, rfl, rfl, by kernel_rfl, inferInstance⟩⟩
instance : FOff Tryz.prog 169 4 4 := ⟨⟨_, _, Tryz.t3, Tryz.underlying169, rfl, rfl, by kernel_rfl, by decide⟩⟩
instance : FTy Tryz.prog 169 4 4 false 1 := ⟨⟨_, _, 3, Tryz.underlying169, rfl, rfl, by kernel_rfl, inferInstance⟩⟩
instance : FieldsL Tryz.prog 169 [(30, 0, 1), (45, 1, 1), (154, 2, 1), (3, 3, 1), (3, 4, 1)] 5 := ⟨⟨_, Tryz.underlying169, by kernel_rfl, by kernel_rfl⟩⟩
instance : StructT Tryz.prog 169 := ⟨⟨_, Tryz.underlying169, by kernel_rfl⟩⟩
instance : HasT Tryz.prog 169 := ⟨⟨_, Tryz.underlying169⟩⟩
instance : ElT Tryz.prog 169 5 := ⟨⟨Tryz.t169, (.agg [.pointer none, .slice none 0 0, .slice none 0 0, .int .i64 0, .int .i64 0].toArray : Value), by kernel_rfl, by kernel_rfl, by kernel_rfl, by kernel_rfl, by decide, by decide⟩⟩
instance : ZeroT Tryz.prog 169 (.agg [.pointer none, .slice none 0 0, .slice none 0 0, .int .i64 0, .int .i64 0].toArray) := ⟨⟨Tryz.t169, by kernel_rfl, by kernel_rfl⟩⟩
instance : TySz Tryz.prog 171 false 1 := ⟨⟨Tryz.t171, _, by kernel_rfl, by kernel_rfl, Tryz.underlying171, by kernel_rfl⟩⟩
instance : HasT Tryz.prog 171 := ⟨⟨_, Tryz.underlying171⟩⟩
instance : ElT Tryz.prog 171 1 := ⟨⟨Tryz.t171, (.nilFunc : Value), by kernel_rfl, by kernel_rfl, by kernel_rfl, by kernel_rfl, by decide, by decide⟩⟩
instance : ZeroT Tryz.prog 171 (.nilFunc) := ⟨⟨Tryz.t171, by kernel_rfl, by kernel_rfl⟩⟩
instance : TySz Tryz.prog 180 false 1 := ⟨⟨Tryz.t180, _, by kernel_rfl, by kernel_rfl, Tryz.underlying180, by kernel_rfl⟩⟩
instance : MapT Tryz.prog 180 9 3 := ⟨Tryz.underlying180⟩
instance : HasT Tryz.prog 180 := ⟨⟨_, Tryz.underlying180⟩⟩
instance : ElT Tryz.prog 180 1 := ⟨⟨Tryz.t180, (.map none : Value), by kernel_rfl, by kernel_rfl, by kernel_rfl, by kernel_rfl, by decide, by decide⟩⟩
instance : ZeroT Tryz.prog 180 (.map none) := ⟨⟨Tryz.t180, by kernel_rfl, by kernel_rfl⟩⟩
instance : TySz Tryz.prog 181 false 1 := ⟨⟨Tryz.t181, _, by kernel_rfl, by kernel_rfl, Tryz.underlying181, by kernel_rfl⟩⟩
instance : SliT Tryz.prog 181 219 := ⟨Tryz.underlying181⟩
instance : HasT Tryz.prog 181 := ⟨⟨_, Tryz.underlying181⟩⟩
instance : ElT Tryz.prog 181 1 := ⟨⟨Tryz.t181, (.slice none 0 0 : Value), by kernel_rfl, by kernel_rfl, by kernel_rfl, by kernel_rfl, by decide, by decide⟩⟩
instance : ZeroT Tryz.prog 181 (.slice none 0 0) := ⟨⟨Tryz.t181, by kernel_rfl, by kernel_rfl⟩⟩
instance : TySz Tryz.prog 182 true 6 := ⟨⟨Tryz.t182, _, by kernel_rfl, by kernel_rfl, Tryz.underlying182, by kernel_rfl⟩⟩
instance : FOff Tryz.prog 182 0 0 := ⟨⟨_, _, Tryz.t99, Tryz.underlying182, rfl, rfl, by kernel_rfl, by decide⟩⟩
instance : FTy Tryz.prog 182 0 0 false 1 := ⟨⟨_, _, 99, Tryz.underlying182, rfl, rfl, by kernel_rfl, inferInstance⟩⟩
instance : FOff Tryz.prog 182 1 1 := ⟨⟨_, _, Tryz.t180, Tryz.underlying182, rfl, rfl, by kernel_rfl, by decide⟩⟩
instance : FTy Tryz.prog 182 1 1 false 1 := ⟨⟨_, _, 180, Tryz.underlying182, rfl, rfl, by kernel_rfl, inferInstance⟩⟩
instance : FOff Tryz.prog 182 2 2 := ⟨⟨_, _, Tryz.t112, Tryz.underlying182, rfl, rfl, by kernel_rfl, by decide⟩⟩
instance : FTy Tryz.prog 182 2 2 false 1 := ⟨⟨_, _, 112, Tryz.underlying182, rfl, rfl, by kernel_rfl, inferInstance⟩⟩
instance : FOff Tryz.prog 182 3 3 := ⟨⟨_, _, Tryz.t108, Tryz.underlying182, rfl, rfl, by kernel_rfl, by decide⟩⟩
instance : FTy Tryz.prog 182 3 3 false 1 := ⟨⟨_, _, 108, Tryz.underlying182, rfl, rfl, by kernel_rfl, inferInstance⟩⟩
instance : FOff Tryz.prog 182 4 4 := ⟨⟨_, _, Tryz.t108, Tryz.underlying182, rfl, rfl, by kernel_rfl, by decide⟩⟩
instance : FTy Tryz.prog 182 4 4 false 1 := ⟨⟨_, _, 108, Tryz.underlying182, rfl, rfl, by kernel_rfl, inferInstance⟩⟩
instance : FOff Tryz.prog 182 5 5 := ⟨⟨_, _, Tryz.t181, Tryz.underlying182, rfl, rfl, by kernel_rfl, by decide⟩⟩
instance : FTy Tryz.prog 182 5 5 false 1 := ⟨⟨_, _, 181, Tryz.underlying182, rfl, rfl, by kernel_rfl, inferInstance⟩⟩
instance : StructT Tryz.prog 182 := ⟨⟨_, Tryz.underlying182, by kernel_rfl⟩⟩
instance : HasT Tryz.prog 182 := ⟨⟨_, Tryz.underlying182⟩⟩
instance : ElT Tryz.prog 182 6 := ⟨⟨Tryz.t182, (.agg [.slice none 0 0, .map none, .slice none 0 0, .slice none 0 0, .slice none 0 0, .slice none 0 0].toArray : Value), by kernel_rfl, by kernel_rfl, by kernel_rfl, by kernel_rfl, by decide, by decide⟩⟩
instance : ZeroT Tryz.prog 182 (.agg [.slice none 0 0, .map none, .slice none 0 0, .slice none 0 0, .slice none 0 0, .slice none 0 0].toArray) := ⟨⟨Tryz.t182, by kernel_rfl, by kernel_rfl⟩⟩
instance : TySz Tryz.prog 183 true 6 := ⟨⟨Tryz.t183, _, by kernel_rfl, by kernel_rfl, Tryz.underlying183, by kernel_rfl⟩⟩
instance : FOff Tryz.prog 183 0 0 := ⟨⟨_, _, Tryz.t99, Tryz.underlying183, rfl, rfl, by kernel_rfl, by decide⟩⟩
instance : FTy Tryz.prog 183 0 0 false 1 := ⟨⟨_, _, 99, Tryz.underlying183, rfl, rfl, by kernel_rfl, inferInstance⟩⟩
instance : FOff Tryz.prog 183 1 1 := ⟨⟨_, _, Tryz.t180, Tryz.underlying183, rfl, rfl, by kernel_rfl, by decide⟩⟩
instance : FTy Tryz.prog 183 1 1 false 1 := ⟨⟨_, _, 180, Tryz.underlying183, rfl, rfl, by kernel_rfl, inferInstance⟩⟩
instance : FOff Tryz.prog 183 2 2 := ⟨⟨_, _, Tryz.t112, Tryz.underlying183, rfl, rfl, by kernel_rfl, by decide⟩⟩
instance : FTy Tryz.prog 183 2 2 false 1 := ⟨⟨_, _, 112, Tryz.underlying183, rfl, rfl, by kernel_rfl, inferInstance⟩⟩
instance : FOff Tryz.prog 183 3 3 := ⟨⟨_, _, Tryz.t108, Tryz.underlying183, rfl, rfl, by kernel_rfl, by decide⟩⟩
instance : FTy Tryz.prog 183 3 3 false 1 := ⟨⟨_, _, 108, Tryz.underlying183, rfl, rfl, by kernel_rfl, inferInstance⟩⟩
instance : FOff Tryz.prog 183 4 4 := ⟨⟨_, _, Tryz.t108, Tryz.underlying183, rfl, rfl, by kernel_rfl, by decide⟩⟩
instance : FTy Tryz.prog 183 4 4 false 1 := ⟨⟨_, _, 108, Tryz.underlying183, rfl, rfl, by kernel_rfl, inferInstance⟩⟩
instance : FOff Tryz.prog 183 5 5 := ⟨⟨_, _, Tryz.t181, Tryz.underlying183, rfl, rfl, by kernel_rfl, by decide⟩⟩
instance : FTy Tryz.prog 183 5 5 false 1 := ⟨⟨_, _, 181, Tryz.underlying183, rfl, rfl, by kernel_rfl, inferInstance⟩⟩
instance : FieldsL Tryz.prog 183 [(99, 0, 1), (180, 1, 1), (112, 2, 1), (108, 3, 1), (108, 4, 1), (181, 5, 1)] 6 := ⟨⟨_, Tryz.underlying183, by kernel_rfl, by kernel_rfl⟩⟩
instance : StructT Tryz.prog 183 := ⟨⟨_, Tryz.underlying183, by kernel_rfl⟩⟩
instance : HasT Tryz.prog 183 := ⟨⟨_, Tryz.underlying183⟩⟩
instance : ElT Tryz.prog 183 6 := ⟨⟨Tryz.t183, (.agg [.slice none 0 0, .map none, .slice none 0 0, .slice none 0 0, .slice none 0 0, .slice none 0 0].toArray : Value), by kernel_rfl, by kernel_rfl, by kernel_rfl, by kernel_rfl, by decide, by decide⟩⟩
instance : ZeroT Tryz.prog 183 (.agg [.slice none 0 0, .map none, .slice none 0 0, .slice none 0 0, .slice none 0 0, .slice none 0 0].toArray) := ⟨⟨Tryz.t183, by kernel_rfl, by kernel_rfl⟩⟩
instance : TySz Tryz.prog 192 true 2 := ⟨⟨Tryz.t192, _, by kernel_rfl, by kernel_rfl, Tryz.underlying192, by kernel_rfl⟩⟩
instance : FOff Tryz.prog 192 0 0 := ⟨⟨_, _, Tryz.t2, Tryz.underlying192, rfl, rfl, by kernel_rfl, by decide⟩⟩
instance : FTy Tryz.prog 192 0 0 false 1 := ⟨⟨_, _, 2, Tryz.underlying192, rfl, rfl, by kernel_rfl, inferInstance⟩⟩
instance : FOff Tryz.prog 192 1 1 := ⟨⟨_, _, Tryz.t160, Tryz.underlying192, rfl, rfl, by kernel_rfl, by decide⟩⟩
instance : FTy Tryz.prog 192 1 1 false 1 := ⟨⟨_, _, 160, Tryz.underlying192, rfl, rfl, by kernel_rfl, inferInstance⟩⟩
instance : FieldsT Tryz.prog 192 [(2, 0), (160, 1)] := ⟨⟨_, Tryz.underlying192, by kernel_rfl, by kernel_rfl, by kernel_rfl, by kernel_rfl⟩⟩
instance : FieldsL Tryz.prog 192 [(2, 0, 1), (160, 1, 1)] 2 := ⟨⟨_, Tryz.underlying192, by kernel_rfl, by kernel_rfl⟩⟩
instance : StructT Tryz.prog 192 := ⟨⟨_, Tryz.underlying192, by kernel_rfl⟩⟩
instance : HasT Tryz.prog 192 := ⟨⟨_, Tryz.underlying192⟩⟩
instance : ElT Tryz.prog 192 2 := ⟨⟨Tryz.t192, (.agg [.int .i64 0, .int .u64 0].toArray : Value), by kernel_rfl, by kernel_rfl, by kernel_rfl, by kernel_rfl, by decide, by decide⟩⟩
instance : ZeroT Tryz.prog 192 (.agg [.int .i64 0, .int .u64 0].toArray) := ⟨⟨Tryz.t192, by kernel_rfl, by kernel_rfl⟩⟩
instance : TySz Tryz.prog 198 true 8 := ⟨⟨Tryz.t198, _, by kernel_rfl, by kernel_rfl, Tryz.underlying198, by kernel_rfl⟩⟩
instance : ArrT Tryz.prog 198 8 3 := ⟨Tryz.underlying198⟩
instance : HasT Tryz.prog 198 := ⟨⟨_, Tryz.underlying198⟩⟩
instance : ElT Tryz.prog 198 8 := ⟨⟨Tryz.t198, (.agg [.int .i64 0, .int .i64 0, .int .i64 0, .int .i64 0, .int .i64 0, .int .i64 0, .int .i64 0, .int .i64 0].toArray : Value), by kernel_rfl, by kernel_rfl, by kernel_rfl, by kernel_rfl, by decide, by decide⟩⟩
instance : ZeroT Tryz.prog 198 (.agg [.int .i64 0, .int .i64 0, .int .i64 0, .int .i64 0, .int .i64 0, .int .i64 0, .int .i64 0, .int .i64 0].toArray) := ⟨⟨Tryz.t198, by kernel_rfl, by kernel_rfl⟩⟩
instance : TySz Tryz.prog 199 true 16 := ⟨⟨Tryz.t199, _, by kernel_rfl, by kernel_rfl, Tryz.underlying199, by kernel_rfl⟩⟩
instance : ArrT Tryz.prog 199 8 90 := ⟨Tryz.underlying199⟩
instance : HasT Tryz.prog 199 := ⟨⟨_, Tryz.underlying199⟩⟩
instance : ElT Tryz.prog 199 16 := ⟨⟨Tryz.t199, (.agg [.int .i64 0, .bool false, .int .i64 0, .bool false, .int .i64 0, .bool false, .int .i64 0, .bool false, .int .i64 0, .bool false, .int .i64 0, .bool false, .int .i64 0, .bool false, .int .i64 0, .bool false].toArray : Value), by kernel_rfl, by kernel_rfl, by kernel_rfl, by kernel_rfl, by decide, by decide⟩⟩
instance : ZeroT Tryz.prog 199 (.agg [.int .i64 0, .bool false, .int .i64 0, .bool false, .int .i64 0, .bool false, .int .i64 0, .bool false, .int .i64 0, .bool false, .int .i64 0, .bool false, .int .i64 0, .bool false, .int .i64 0, .bool false].toArray) := ⟨⟨Tryz.t199, by kernel_rfl, by kernel_rfl⟩⟩
instance : TySz Tryz.prog 200 true 25 := ⟨⟨Tryz.t200, _, by kernel_rfl, by kernel_rfl, Tryz.underlying200, by kernel_rfl⟩⟩
instance : FOff Tryz.prog 200 0 0 := ⟨⟨_, _, Tryz.t4, Tryz.underlying200, rfl, rfl, by kernel_rfl, by decide⟩⟩
instance : FTy Tryz.prog 200 0 0 false 1 := ⟨⟨_, _, 4, Tryz.underlying200, rfl, rfl, by kernel_rfl, inferInstance⟩⟩
instance : FOff Tryz.prog 200 1 1 := ⟨⟨_, _, Tryz.t198, Tryz.underlying200, rfl, rfl, by kernel_rfl, by decide⟩⟩
instance : FTy Tryz.prog 200 1 1 true 8 := ⟨⟨_, _, 198, Tryz.underlying200, rfl, rfl, by kernel_rfl, inferInstance⟩⟩
instance : FOff Tryz.prog 200 2 9 := ⟨⟨_, _, Tryz.t199, Tryz.underlying200, rfl, rfl, by kernel_rfl, by decide⟩⟩
instance : FTy Tryz.prog 200 2 9 true 16 := ⟨⟨_, _, 199, Tryz.underlying200, rfl, rfl, by kernel_rfl, inferInstance⟩⟩
instance : StructT Tryz.prog 200 := ⟨⟨_, Tryz.underlying200, by kernel_rfl⟩⟩
instance : HasT Tryz.prog 200 := ⟨⟨_, Tryz.underlying200⟩⟩
instance : ElT Tryz.prog 200 25 := ⟨⟨Tryz.t200, (.agg [.bool false, .int .i64 0, .int .i64 0, .int .i64 0, .int .i64 0, .int .i64 0, .int .i64 0, .int .i64 0, .int .i64 0, .int .i64 0, .bool false, .int .i64 0, .bool false, .int .i64 0, .bool false, .int .i64 0, .bool false, .int .i64 0, .bool false, .int .i64 0, .bool false, .int .i64 0, .bool false, .int .i64 0, .bool false].toArray : Value), by kernel_rfl, by kernel_rfl, by kernel_rfl, by kernel_rfl, by decide, by decide⟩⟩
instance : ZeroT Tryz.prog 200 (.agg [.bool false, .int .i64 0, .int .i64 0, .int .i64 0, .int .i64 0, .int .i64 0, .int .i64 0, .int .i64 0, .int .i64 0, .int .i64 0, .bool false, .int .i64 0, .bool false, .int .i64 0, .bool false, .int .i64 0, .bool false, .int .i64 0, .bool false, .int .i64 0, .bool false, .int .i64 0, .bool false, .int .i64 0, .bool false].toArray) := ⟨⟨Tryz.t200, by kernel_rfl, by kernel_rfl⟩⟩
instance : TySz Tryz.prog 201 true 25 := ⟨⟨Tryz.t201, _, by kernel_rfl, by kernel_rfl, Tryz.underlying201, by kernel_rfl⟩⟩
instance : FOff Tryz.prog 201 0 0 := ⟨⟨_, _, Tryz.t4, Tryz.underlying201, rfl, rfl, by kernel_rfl, by decide⟩⟩
instance : FTy Tryz.prog 201 0 0 false 1 := ⟨⟨_, _, 4, Tryz.underlying201, rfl, rfl, by kernel_rfl, inferInstance⟩⟩
instance : FOff Tryz.prog 201 1 1 := ⟨⟨_, _, Tryz.t198, Tryz.underlying201, rfl, rfl, by kernel_rfl, by decide⟩⟩
instance : FTy Tryz.prog 201 1 1 true 8 := ⟨⟨_, _, 198, Tryz.underlying201, rfl, rfl, by kernel_rfl, inferInstance⟩⟩
instance : FOff Tryz.prog 201 2 9 := ⟨⟨_, _, Tryz.t199, Tryz.underlying201, rfl, rfl, by kernel_rfl, by decide⟩⟩
instance : FTy Tryz.prog 201 2 9 true 16 := ⟨⟨_, _, 199, Tryz.underlying201, rfl, rfl, by kernel_rfl, inferInstance⟩⟩
instance : FieldsT Tryz.prog 201 [(4, 0), (198, 1), (199, 9)] := ⟨⟨_, Tryz.underlying201, by kernel_rfl, by kernel_rfl, by kernel_rfl, by kernel_rfl⟩⟩
instance : FieldsL Tryz.prog 201 [(4, 0, 1), (198, 1, 8), (199, 9, 16)] 25 := ⟨⟨_, Tryz.underlying201, by kernel_rfl, by kernel_rfl⟩⟩
instance : StructT Tryz.prog 201 := ⟨⟨_, Tryz.underlying201, by kernel_rfl⟩⟩
instance : HasT Tryz.prog 201 := ⟨⟨_, Tryz.underlying201⟩⟩
instance : ElT Tryz.prog 201 25 := ⟨⟨Tryz.t201, (.agg [.bool false, .int .i64 0, .int .i64 0, .int .i64 0, .int .i64 0, .int .i64 0, .int .i64 0, .int .i64 0, .int .i64 0, .int .i64 0, .bool false, .int .i64 0, .bool false, .int .i64 0, .bool false, .int .i64 0, .bool false, .int .i64 0, .bool false, .int .i64 0, .bool false, .int .i64 0, .bool false, .int .i64 0, .bool false].toArray : Value), by kernel_rfl, by kernel_rfl, by kernel_rfl, by kernel_rfl, by decide, by decide⟩⟩
instance : ZeroT Tryz.prog 201 (.agg [.bool false, .int .i64 0, .int .i64 0, .int .i64 0, .int .i64 0, .int .i64 0, .int .i64 0, .int .i64 0, .int .i64 0, .int .i64 0, .bool false, .int .i64 0, .bool false, .int .i64 0, .bool false, .int .i64 0, .bool false, .int .i64 0, .bool false, .int .i64 0, .bool false, .int .i64 0, .bool false, .int .i64 0, .bool false].toArray) := ⟨⟨Tryz.t201, by kernel_rfl, by kernel_rfl⟩⟩
instance : TySz Tryz.prog 204 false 1 := ⟨⟨Tryz.t204, _, by kernel_rfl, by kernel_rfl, Tryz.underlying204, by kernel_rfl⟩⟩
instance : HasT Tryz.prog 204 := ⟨⟨_, Tryz.underlying204⟩⟩
instance : ElT Tryz.prog 204 1 := ⟨⟨Tryz.t204, (.nilFunc : Value), by kernel_rfl, by kernel_rfl, by kernel_rfl, by kernel_rfl, by decide, by decide⟩⟩
instance : ZeroT Tryz.prog 204 (.nilFunc) := ⟨⟨Tryz.t204, by kernel_rfl, by kernel_rfl⟩⟩
instance : TySz Tryz.prog 205 false 1 := ⟨⟨Tryz.t205, _, by kernel_rfl, by kernel_rfl, Tryz.underlying205, by kernel_rfl⟩⟩
instance : HasT Tryz.prog 205 := ⟨⟨_, Tryz.underlying205⟩⟩
instance : ElT Tryz.prog 205 1 := ⟨⟨Tryz.t205, (.nilFunc : Value), by kernel_rfl, by kernel_rfl, by kernel_rfl, by kernel_rfl, by decide, by decide⟩⟩
instance : ZeroT Tryz.prog 205 (.nilFunc) := ⟨⟨Tryz.t205, by kernel_rfl, by kernel_rfl⟩⟩
instance : TySz Tryz.prog 210 false 1 := ⟨⟨Tryz.t210, _, by kernel_rfl, by kernel_rfl, Tryz.underlying210, by kernel_rfl⟩⟩
instance : IntT Tryz.prog 210 .u64 := ⟨Tryz.underlying210⟩
instance : HasT Tryz.prog 210 := ⟨⟨_, Tryz.underlying210⟩⟩
instance : ElT Tryz.prog 210 1 := ⟨⟨Tryz.t210, (.int .u64 0 : Value), by kernel_rfl, by kernel_rfl, by kernel_rfl, by kernel_rfl, by decide, by decide⟩⟩
instance : ZeroT Tryz.prog 210 (.int .u64 0) := ⟨⟨Tryz.t210, by kernel_rfl, by kernel_rfl⟩⟩
instance : TySz Tryz.prog 212 true 2 := ⟨⟨Tryz.t212, _, by kernel_rfl, by kernel_rfl, Tryz.underlying212, by kernel_rfl⟩⟩
instance : FOff Tryz.prog 212 0 0 := ⟨⟨_, _, Tryz.t53, Tryz.underlying212, rfl, rfl, by kernel_rfl, by decide⟩⟩
instance : FTy Tryz.prog 212 0 0 false 1 := ⟨⟨_, _, 53, Tryz.underlying212, rfl, rfl, by kernel_rfl, inferInstance⟩⟩
instance : FOff Tryz.prog 212 1 1 := ⟨⟨_, _, Tryz.t54, Tryz.underlying212, rfl, rfl, by kernel_rfl, by decide⟩⟩
instance : FTy Tryz.prog 212 1 1 false 1 := ⟨⟨_, _, 54, Tryz.underlying212, rfl, rfl, by kernel_rfl, inferInstance⟩⟩
instance : StructT Tryz.prog 212 := ⟨⟨_, Tryz.underlying212, by kernel_rfl⟩⟩
instance : HasT Tryz.prog 212 := ⟨⟨_, Tryz.underlying212⟩⟩
instance : ElT Tryz.prog 212 2 := ⟨⟨Tryz.t212, (.agg [.pointer none, .slice none 0 0].toArray : Value), by kernel_rfl, by kernel_rfl, by kernel_rfl, by kernel_rfl, by decide, by decide⟩⟩
instance : ZeroT Tryz.prog 212 (.agg [.pointer none, .slice none 0 0].toArray) := ⟨⟨Tryz.t212, by kernel_rfl, by kernel_rfl⟩⟩
instance : TySz Tryz.prog 213 true 2 := ⟨⟨Tryz.t213, _, by kernel_rfl, by kernel_rfl, Tryz.underlying213, by kernel_rfl⟩⟩
instance : FOff Tryz.prog 213 0 0 := ⟨⟨_, _, Tryz.t53, Tryz.underlying213, rfl, rfl, by kernel_rfl, by decide⟩⟩
instance : FTy Tryz.prog 213 0 0 false 1 := ⟨⟨_, _, 53, Tryz.underlying213, rfl, rfl, by kernel_rfl, inferInstance⟩⟩
instance : FOff Tryz.prog 213 1 1 := ⟨⟨_, _, Tryz.t54, Tryz.underlying213, rfl, rfl, by kernel_rfl, by decide⟩⟩
instance : FTy Tryz.prog 213 1 1 false 1 := ⟨⟨_, _, 54, Tryz.underlying213, rfl, rfl, by kernel_rfl, inferInstance⟩⟩
instance : FieldsL Tryz.prog 213 [(53, 0, 1), (54, 1, 1)] 2 := ⟨⟨_, Tryz.underlying213, by kernel_rfl, by kernel_rfl⟩⟩
instance : StructT Tryz.prog 213 := ⟨⟨_, Tryz.underlying213, by kernel_rfl⟩⟩
instance : HasT Tryz.prog 213 := ⟨⟨_, Tryz.underlying213⟩⟩
instance : ElT Tryz.prog 213 2 := ⟨⟨Tryz.t213, (.agg [.pointer none, .slice none 0 0].toArray : Value), by kernel_rfl, by kernel_rfl, by kernel_rfl, by kernel_rfl, by decide, by decide⟩⟩
instance : ZeroT Tryz.prog 213 (.agg [.pointer none, .slice none 0 0].toArray) := ⟨⟨Tryz.t213, by kernel_rfl, by kernel_rfl⟩⟩
instance : TySz Tryz.prog 215 false 1 := ⟨⟨Tryz.t215, _, by kernel_rfl, by kernel_rfl, Tryz.underlying215, by kernel_rfl⟩⟩
instance : HasT Tryz.prog 215 := ⟨⟨_, Tryz.underlying215⟩⟩
instance : ElT Tryz.prog 215 1 := ⟨⟨Tryz.t215, (.nilFunc : Value), by kernel_rfl, by kernel_rfl, by kernel_rfl, by kernel_rfl, by decide, by decide⟩⟩
instance : ZeroT Tryz.prog 215 (.nilFunc) := ⟨⟨Tryz.t215, by kernel_rfl, by kernel_rfl⟩⟩
instance : TySz Tryz.prog 218 true 2 := ⟨⟨Tryz.t218, _, by kernel_rfl, by kernel_rfl, Tryz.underlying218, by kernel_rfl⟩⟩
instance : FOff Tryz.prog 218 0 0 := ⟨⟨_, _, Tryz.t3, Tryz.underlying218, rfl, rfl, by kernel_rfl, by decide⟩⟩
instance : FTy Tryz.prog 218 0 0 false 1 := ⟨⟨_, _, 3, Tryz.underlying218, rfl, rfl, by kernel_rfl, inferInstance⟩⟩
instance : FOff Tryz.prog 218 1 1 := ⟨⟨_, _, Tryz.t3, Tryz.underlying218, rfl, rfl, by kernel_rfl, by decide⟩⟩
instance : FTy Tryz.prog 218 1 1 false 1 := ⟨⟨_, _, 3, Tryz.underlying218, rfl, rfl, by kernel_rfl, inferInstance⟩⟩
instance : StructT Tryz.prog 218 := ⟨⟨_, Tryz.underlying218, by kernel_rfl⟩⟩
instance : HasT Tryz.prog 218 := ⟨⟨_, Tryz.underlying218⟩⟩
instance : ElT Tryz.prog 218 2 := ⟨⟨Tryz.t218, (.agg [.int .i64 0, .int .i64 0].toArray : Value), by kernel_rfl, by kernel_rfl, by kernel_rfl, by kernel_rfl, by decide, by decide⟩⟩
instance : ZeroT Tryz.prog 218 (.agg [.int .i64 0, .int .i64 0].toArray) := ⟨⟨Tryz.t218, by kernel_rfl, by kernel_rfl⟩⟩
instance : TySz Tryz.prog 219 true 2 := ⟨⟨Tryz.t219, _, by kernel_rfl, by kernel_rfl, Tryz.underlying219, by kernel_rfl⟩⟩
instance : FOff Tryz.prog 219 0 0 := ⟨⟨_, _, Tryz.t3, Tryz.underlying219, rfl, rfl, by kernel_rfl, by decide⟩⟩
instance : FTy Tryz.prog 219 0 0 false 1 := ⟨⟨_, _, 3, Tryz.underlying219, rfl, rfl, by kernel_rfl, inferInstance⟩⟩
instance : FOff Tryz.prog 219 1 1 := ⟨⟨_, _, Tryz.t3, Tryz.underlying219, rfl, rfl, by kernel_rfl, by decide⟩⟩
instance : FTy Tryz.prog 219 1 1 false 1 := ⟨⟨_, _, 3, Tryz.underlying219, rfl, rfl, by kernel_rfl, inferInstance⟩⟩
instance : FieldsT Tryz.prog 219 [(3, 0), (3, 1)] := ⟨⟨_, Tryz.underlying219, by kernel_rfl, by kernel_rfl, by kernel_rfl, by kernel_rfl⟩⟩
instance : FieldsL Tryz.prog 219 [(3, 0, 1), (3, 1, 1)] 2 := ⟨⟨_, Tryz.underlying219, by kernel_rfl, by kernel_rfl⟩⟩
instance : StructT Tryz.prog 219 := ⟨⟨_, Tryz.underlying219, by kernel_rfl⟩⟩
instance : HasT Tryz.prog 219 := ⟨⟨_, Tryz.underlying219⟩⟩
instance : ElT Tryz.prog 219 2 := ⟨⟨Tryz.t219, (.agg [.int .i64 0, .int .i64 0].toArray : Value), by kernel_rfl, by kernel_rfl, by kernel_rfl, by kernel_rfl, by decide, by decide⟩⟩
instance : ZeroT Tryz.prog 219 (.agg [.int .i64 0, .int .i64 0].toArray) := ⟨⟨Tryz.t219, by kernel_rfl, by kernel_rfl⟩⟩
instance : TySz Tryz.prog 222 false 1 := ⟨⟨Tryz.t222, _, by kernel_rfl, by kernel_rfl, Tryz.underlying222, by kernel_rfl⟩⟩
instance : SliT Tryz.prog 222 131 := ⟨Tryz.underlying222⟩
instance : HasT Tryz.prog 222 := ⟨⟨_, Tryz.underlying222⟩⟩
instance : ElT Tryz.prog 222 1 := ⟨⟨Tryz.t222, (.slice none 0 0 : Value), by kernel_rfl, by kernel_rfl, by kernel_rfl, by kernel_rfl, by decide, by decide⟩⟩
instance : ZeroT Tryz.prog 222 (.slice none 0 0) := ⟨⟨Tryz.t222, by kernel_rfl, by kernel_rfl⟩⟩
instance : TySz Tryz.prog 234 false 1 := ⟨⟨Tryz.t234, _, by kernel_rfl, by kernel_rfl, Tryz.underlying234, by kernel_rfl⟩⟩
instance : HasT Tryz.prog 234 := ⟨⟨_, Tryz.underlying234⟩⟩
instance : ElT Tryz.prog 234 1 := ⟨⟨Tryz.t234, (.nilFunc : Value), by kernel_rfl, by kernel_rfl, by kernel_rfl, by kernel_rfl, by decide, by decide⟩⟩
instance : ZeroT Tryz.prog 234 (.nilFunc) := ⟨⟨Tryz.t234, by kernel_rfl, by kernel_rfl⟩⟩
instance : TySz Tryz.prog 235 false 1 := ⟨⟨Tryz.t235, _, by kernel_rfl, by kernel_rfl, Tryz.underlying235, by kernel_rfl⟩⟩
instance : HasT Tryz.prog 235 := ⟨⟨_, Tryz.underlying235⟩⟩
instance : ElT Tryz.prog 235 1 := ⟨⟨Tryz.t235, (.nilFunc : Value), by kernel_rfl, by kernel_rfl, by kernel_rfl, by kernel_rfl, by decide, by decide⟩⟩
instance : ZeroT Tryz.prog 235 (.nilFunc) := ⟨⟨Tryz.t235, by kernel_rfl, by kernel_rfl⟩⟩
instance : TySz Tryz.prog 236 false 1 := ⟨⟨Tryz.t236, _, by kernel_rfl, by kernel_rfl, Tryz.underlying236, by kernel_rfl⟩⟩
instance : PtrT Tryz.prog 236 := ⟨⟨_, Tryz.t240, Tryz.underlying236, by kernel_rfl, by decide⟩⟩
instance : HasT Tryz.prog 236 := ⟨⟨_, Tryz.underlying236⟩⟩
instance : ElT Tryz.prog 236 1 := ⟨⟨Tryz.t236, (.pointer none : Value), by kernel_rfl, by kernel_rfl, by kernel_rfl, by kernel_rfl, by decide, by decide⟩⟩
instance : ZeroT Tryz.prog 236 (.pointer none) := ⟨⟨Tryz.t236, by kernel_rfl, by kernel_rfl⟩⟩
instance : TySz Tryz.prog 239 true 26 := ⟨⟨Tryz.t239, _, by kernel_rfl, by kernel_rfl, Tryz.underlying239, by kernel_rfl⟩⟩
instance : FOff Tryz.prog 239 0 0 := ⟨⟨_, _, Tryz.t201, Tryz.underlying239, rfl, rfl, by kernel_rfl, by decide⟩⟩
instance : FTy Tryz.prog 239 0 0 true 25 := ⟨⟨_, _, 201, Tryz.underlying239, rfl, rfl, by kernel_rfl, inferInstance⟩⟩
instance : FOff Tryz.prog 239 1 25 := ⟨⟨_, _, Tryz.t3, Tryz.underlying239, rfl, rfl, by kernel_rfl, by decide⟩⟩
instance : FTy Tryz.prog 239 1 25 false 1 := ⟨⟨_, _, 3, Tryz.underlying239, rfl, rfl, by kernel_rfl, inferInstance⟩⟩
instance : StructT Tryz.prog 239 := ⟨⟨_, Tryz.underlying239, by kernel_rfl⟩⟩
instance : HasT Tryz.prog 239 := ⟨⟨_, Tryz.underlying239⟩⟩
instance : ElT Tryz.prog 239 26 := ⟨⟨Tryz.t239, (.agg [.bool false, .int .i64 0, .int .i64 0, .int .i64 0, .int .i64 0, .int .i64 0, .int .i64 0, .int .i64 0, .int .i64 0, .int .i64 0, .bool false, .int .i64 0, .bool false, .int .i64 0, .bool false, .int .i64 0, .bool false, .int .i64 0, .bool false, .int .i64 0, .bool false, .int .i64 0, .bool false, .int .i64 0, .bool false, .int .i64 0].toArray : Value), by kernel_rfl, by kernel_rfl, by kernel_rfl, by kernel_rfl, by decide, by decide⟩⟩
instance : ZeroT Tryz.prog 239 (.agg [.bool false, .int .i64 0, .int .i64 0, .int .i64 0, .int .i64 0, .int .i64 0, .int .i64 0, .int .i64 0, .int .i64 0, .int .i64 0, .bool false, .int .i64 0, .bool false, .int .i64 0, .bool false, .int .i64 0, .bool false, .int .i64 0, .bool false, .int .i64 0, .bool false, .int .i64 0, .bool false, .int .i64 0, .bool false, .int .i64 0].toArray) := ⟨⟨Tryz.t239, by kernel_rfl, by kernel_rfl⟩⟩
instance : TySz Tryz.prog 240 true 26 := ⟨⟨Tryz.t240, _, by kernel_rfl, by kernel_rfl, Tryz.underlying240, by kernel_rfl⟩⟩
instance : FOff Tryz.prog 240 0 0 := ⟨⟨_, _, Tryz.t201, Tryz.underlying240, rfl, rfl, by kernel_rfl, by decide⟩⟩
instance : FTy Tryz.prog 240 0 0 true 25 := ⟨⟨_, _, 201, Tryz.underlying240, rfl, rfl, by kernel_rfl, inferInstance⟩⟩
instance : FOff Tryz.prog 240 1 25 := ⟨⟨_, _, Tryz.t3, Tryz.underlying240, rfl, rfl, by kernel_rfl, by decide⟩⟩
instance : FTy Tryz.prog 240 1 25 false 1 := ⟨⟨_, _, 3, Tryz.underlying240, rfl, rfl, by kernel_rfl, inferInstance⟩⟩
instance : FieldsT Tryz.prog 240 [(201, 0), (3, 25)] := ⟨⟨_, Tryz.underlying240, by kernel_rfl, by kernel_rfl, by kernel_rfl, by kernel_rfl⟩⟩
instance : FieldsL Tryz.prog 240 [(201, 0, 25), (3, 25, 1)] 26 := ⟨⟨_, Tryz.underlying240, by kernel_rfl, by kernel_rfl⟩⟩
instance : StructT Tryz.prog 240 := ⟨⟨_, Tryz.underlying240, by kernel_rfl⟩⟩
instance : HasT Tryz.prog 240 := ⟨⟨_, Tryz.underlying240⟩⟩
instance : ElT Tryz.prog 240 26 := ⟨⟨Tryz.t240, (.agg [.bool false, .int .i64 0, .int .i64 0, .int .i64 0, .int .i64 0, .int .i64 0, .int .i64 0, .int .i64 0, .int .i64 0, .int .i64 0, .bool false, .int .i64 0, .bool false, .int .i64 0, .bool false, .int .i64 0, .bool false, .int .i64 0, .bool false, .int .i64 0, .bool false, .int .i64 0, .bool false, .int .i64 0, .bool false, .int .i64 0].toArray : Value), by kernel_rfl, by kernel_rfl, by kernel_rfl, by kernel_rfl, by decide, by decide⟩⟩
instance : ZeroT Tryz.prog 240 (.agg [.bool false, .int .i64 0, .int .i64 0, .int .i64 0, .int .i64 0, .int .i64 0, .int .i64 0, .int .i64 0, .int .i64 0, .int .i64 0, .bool false, .int .i64 0, .bool false, .int .i64 0, .bool false, .int .i64 0, .bool false, .int .i64 0, .bool false, .int .i64 0, .bool false, .int .i64 0, .bool false, .int .i64 0, .bool false, .int .i64 0].toArray) := ⟨⟨Tryz.t240, by kernel_rfl, by kernel_rfl⟩⟩
instance : TySz Tryz.prog 244 false 1 := ⟨⟨Tryz.t244, _, by kernel_rfl, by kernel_rfl, Tryz.underlying244, by kernel_rfl⟩⟩
instance : IntT Tryz.prog 244 .i64 := ⟨Tryz.underlying244⟩
instance : HasT Tryz.prog 244 := ⟨⟨_, Tryz.underlying244⟩⟩
instance : ElT Tryz.prog 244 1 := ⟨⟨Tryz.t244, (.int .i64 0 : Value), by kernel_rfl, by kernel_rfl, by kernel_rfl, by kernel_rfl, by decide, by decide⟩⟩
instance : ZeroT Tryz.prog 244 (.int .i64 0) := ⟨⟨Tryz.t244, by kernel_rfl, by kernel_rfl⟩⟩
instance : TySz Tryz.prog 251 false 1 := ⟨⟨Tryz.t251, _, by kernel_rfl, by kernel_rfl, Tryz.underlying251, by kernel_rfl⟩⟩
instance : IntT Tryz.prog 251 .u32 := ⟨Tryz.underlying251⟩
instance : HasT Tryz.prog 251 := ⟨⟨_, Tryz.underlying251⟩⟩
instance : ElT Tryz.prog 251 1 := ⟨⟨Tryz.t251, (.int .u32 0 : Value), by kernel_rfl, by kernel_rfl, by kernel_rfl, by kernel_rfl, by decide, by decide⟩⟩
instance : ZeroT Tryz.prog 251 (.int .u32 0) := ⟨⟨Tryz.t251, by kernel_rfl, by kernel_rfl⟩⟩
instance : CallF Tryz.prog 10 := ⟨Tryz.call10⟩
instance : CallF Tryz.prog 11 := ⟨Tryz.call11⟩
instance : CallF Tryz.prog 12 := ⟨Tryz.call12⟩
instance : CallF Tryz.prog 13 := ⟨Tryz.call13⟩
instance : CallF Tryz.prog 14 := ⟨Tryz.call14⟩
instance : CallF Tryz.prog 15 := ⟨Tryz.call15⟩
instance : CallF Tryz.prog 16 := ⟨Tryz.call16⟩
instance : CallF Tryz.prog 17 := ⟨Tryz.call17⟩
instance : CallF Tryz.prog 18 := ⟨Tryz.call18⟩
instance : CallF Tryz.prog 19 := ⟨Tryz.call19⟩
instance : CallF Tryz.prog 20 := ⟨Tryz.call20⟩
instance : CallF Tryz.prog 21 := ⟨Tryz.call21⟩
instance : CallF Tryz.prog 22 := ⟨Tryz.call22⟩
instance : CallF Tryz.prog 24 := ⟨Tryz.call24⟩
instance : CallF Tryz.prog 28 := ⟨Tryz.call28⟩
instance : CallF Tryz.prog 29 := ⟨Tryz.call29⟩
instance : CallF Tryz.prog 30 := ⟨Tryz.call30⟩
instance : CallF Tryz.prog 31 := ⟨Tryz.call31⟩
instance : CallF Tryz.prog 32 := ⟨Tryz.call32⟩
instance : CallF Tryz.prog 33 := ⟨Tryz.call33⟩
instance : CallF Tryz.prog 35 := ⟨Tryz.call35⟩
instance : CallF Tryz.prog 36 := ⟨Tryz.call36⟩
instance : CallF Tryz.prog 37 := ⟨Tryz.call37⟩
instance : CallF Tryz.prog 38 := ⟨Tryz.call38⟩
instance : CallF Tryz.prog 40 := ⟨Tryz.call40⟩
instance : CallF Tryz.prog 41 := ⟨Tryz.call41⟩
instance : CallF Tryz.prog 42 := ⟨Tryz.call42⟩
instance : CallF Tryz.prog 43 := ⟨Tryz.call43⟩
instance : CallF Tryz.prog 44 := ⟨Tryz.call44⟩
instance : CallF Tryz.prog 45 := ⟨Tryz.call45⟩
instance : CallF Tryz.prog 46 := ⟨Tryz.call46⟩
instance : CallF Tryz.prog 47 := ⟨Tryz.call47⟩
instance : CallF Tryz.prog 48 := ⟨Tryz.call48⟩
instance : CallF Tryz.prog 49 := ⟨Tryz.call49⟩
instance : CallF Tryz.prog 50 := ⟨Tryz.call50⟩
instance : CallF Tryz.prog 51 := ⟨Tryz.call51⟩
instance : CallF Tryz.prog 52 := ⟨Tryz.call52⟩
instance : CallF Tryz.prog 53 := ⟨Tryz.call53⟩
instance : CallF Tryz.prog 54 := ⟨Tryz.call54⟩
instance : CallF Tryz.prog 55 := ⟨Tryz.call55⟩
instance : CallF Tryz.prog 56 := ⟨Tryz.call56⟩
instance : CallF Tryz.prog 57 := ⟨Tryz.call57⟩
instance : CallF Tryz.prog 58 := ⟨Tryz.call58⟩
instance : CallF Tryz.prog 59 := ⟨Tryz.call59⟩
instance : CallF Tryz.prog 60 := ⟨Tryz.call60⟩
instance : CallF Tryz.prog 61 := ⟨Tryz.call61⟩
instance : CallF Tryz.prog 62 := ⟨Tryz.call62⟩
instance : CallF Tryz.prog 63 := ⟨Tryz.call63⟩
instance : CallF Tryz.prog 64 := ⟨Tryz.call64⟩
instance : CallF Tryz.prog 66 := ⟨Tryz.call66⟩
instance : CallF Tryz.prog 68 := ⟨Tryz.call68⟩
instance : CallF Tryz.prog 69 := ⟨Tryz.call69⟩
instance : CallF Tryz.prog 70 := ⟨Tryz.call70⟩
instance : CallF Tryz.prog 71 := ⟨Tryz.call71⟩
instance : CallF Tryz.prog 72 := ⟨Tryz.call72⟩
instance : CallF Tryz.prog 73 := ⟨Tryz.call73⟩
instance : CallF Tryz.prog 74 := ⟨Tryz.call74⟩
instance : CallF Tryz.prog 75 := ⟨Tryz.call75⟩
instance : CallF Tryz.prog 76 := ⟨Tryz.call76⟩
instance : CallF Tryz.prog 77 := ⟨Tryz.call77⟩
instance : CallF Tryz.prog 78 := ⟨Tryz.call78⟩
instance : CallF Tryz.prog 79 := ⟨Tryz.call79⟩
instance : CallF Tryz.prog 80 := ⟨Tryz.call80⟩
instance : CallF Tryz.prog 81 := ⟨Tryz.call81⟩
instance : CallF Tryz.prog 82 := ⟨Tryz.call82⟩
instance : CallF Tryz.prog 83 := ⟨Tryz.call83⟩
instance : CallF Tryz.prog 84 := ⟨Tryz.call84⟩
instance : CallF Tryz.prog 85 := ⟨Tryz.call85⟩
instance : CallF Tryz.prog 86 := ⟨Tryz.call86⟩
instance : CallF Tryz.prog 87 := ⟨Tryz.call87⟩
instance : CallF Tryz.prog 88 := ⟨Tryz.call88⟩
instance : CallF Tryz.prog 89 := ⟨Tryz.call89⟩
instance : CallF Tryz.prog 90 := ⟨Tryz.call90⟩
instance : CallF Tryz.prog 91 := ⟨Tryz.call91⟩
instance : CallF Tryz.prog 92 := ⟨Tryz.call92⟩
instance : CallF Tryz.prog 93 := ⟨Tryz.call93⟩
instance : CallF Tryz.prog 94 := ⟨Tryz.call94⟩
instance : CallF Tryz.prog 95 := ⟨Tryz.call95⟩
instance : CallF Tryz.prog 96 := ⟨Tryz.call96⟩
instance : CallF Tryz.prog 97 := ⟨Tryz.call97⟩
instance : CallF Tryz.prog 98 := ⟨Tryz.call98⟩
instance : CallF Tryz.prog 99 := ⟨Tryz.call99⟩
instance : CallF Tryz.prog 100 := ⟨Tryz.call100⟩
instance : CallF Tryz.prog 101 := ⟨Tryz.call101⟩
instance : CallF Tryz.prog 102 := ⟨Tryz.call102⟩
instance : CallF Tryz.prog 103 := ⟨Tryz.call103⟩
instance : CallF Tryz.prog 104 := ⟨Tryz.call104⟩
instance : CallF Tryz.prog 105 := ⟨Tryz.call105⟩
instance : CallF Tryz.prog 106 := ⟨Tryz.call106⟩
instance : CallF Tryz.prog 107 := ⟨Tryz.call107⟩
instance : CallF Tryz.prog 110 := ⟨Tryz.call110⟩
instance : CallF Tryz.prog 111 := ⟨Tryz.call111⟩
instance : CallF Tryz.prog 112 := ⟨Tryz.call112⟩
instance : CallF Tryz.prog 113 := ⟨Tryz.call113⟩
instance : CallF Tryz.prog 114 := ⟨Tryz.call114⟩
instance : CallF Tryz.prog 115 := ⟨Tryz.call115⟩
instance : CallF Tryz.prog 117 := ⟨Tryz.call117⟩
instance : CallF Tryz.prog 118 := ⟨Tryz.call118⟩
instance : CallF Tryz.prog 119 := ⟨Tryz.call119⟩
instance : CallF Tryz.prog 120 := ⟨Tryz.call120⟩
instance : CallF Tryz.prog 121 := ⟨Tryz.call121⟩
instance : CallF Tryz.prog 122 := ⟨Tryz.call122⟩
instance : CallF Tryz.prog 123 := ⟨Tryz.call123⟩
instance : CallF Tryz.prog 124 := ⟨Tryz.call124⟩
instance : CallF Tryz.prog 125 := ⟨Tryz.call125⟩
instance : CallF Tryz.prog 126 := ⟨Tryz.call126⟩
instance : CallF Tryz.prog 127 := ⟨Tryz.call127⟩
instance : CallF Tryz.prog 128 := ⟨Tryz.call128⟩
instance : CallF Tryz.prog 129 := ⟨Tryz.call129⟩
instance : CallF Tryz.prog 130 := ⟨Tryz.call130⟩
instance : CallF Tryz.prog 131 := ⟨Tryz.call131⟩
instance : CallF Tryz.prog 132 := ⟨Tryz.call132⟩
instance : CallF Tryz.prog 133 := ⟨Tryz.call133⟩
instance : CallF Tryz.prog 134 := ⟨Tryz.call134⟩
instance : CallF Tryz.prog 135 := ⟨Tryz.call135⟩
instance : CallF Tryz.prog 136 := ⟨Tryz.call136⟩
instance : CallF Tryz.prog 137 := ⟨Tryz.call137⟩
instance : CallF Tryz.prog 138 := ⟨Tryz.call138⟩
instance : CallF Tryz.prog 141 := ⟨Tryz.call141⟩
instance : CallF Tryz.prog 142 := ⟨Tryz.call142⟩
instance : CallF Tryz.prog 143 := ⟨Tryz.call143⟩
instance : CallF Tryz.prog 144 := ⟨Tryz.call144⟩
instance : CallF Tryz.prog 145 := ⟨Tryz.call145⟩
instance : CallF Tryz.prog 146 := ⟨Tryz.call146⟩
instance : CallF Tryz.prog 147 := ⟨Tryz.call147⟩
instance : CallF Tryz.prog 148 := ⟨Tryz.call148⟩
instance : CallF Tryz.prog 149 := ⟨Tryz.call149⟩
instance : CallF Tryz.prog 150 := ⟨Tryz.call150⟩
instance : CallF Tryz.prog 151 := ⟨Tryz.call151⟩
instance : CallF Tryz.prog 152 := ⟨Tryz.call152⟩
instance : CallF Tryz.prog 153 := ⟨Tryz.call153⟩
instance : CallF Tryz.prog 154 := ⟨Tryz.call154⟩
instance : CallF Tryz.prog 156 := ⟨Tryz.call156⟩
instance : CallF Tryz.prog 157 := ⟨Tryz.call157⟩
instance : CallF Tryz.prog 158 := ⟨Tryz.call158⟩
instance : CallF Tryz.prog 159 := ⟨Tryz.call159⟩
instance : CallF Tryz.prog 160 := ⟨Tryz.call160⟩
instance : CallF Tryz.prog 161 := ⟨Tryz.call161⟩
instance : CallF Tryz.prog 162 := ⟨Tryz.call162⟩
instance : CallF Tryz.prog 163 := ⟨Tryz.call163⟩
instance : CallF Tryz.prog 164 := ⟨Tryz.call164⟩
instance : CallF Tryz.prog 165 := ⟨Tryz.call165⟩
instance : CallF Tryz.prog 166 := ⟨Tryz.call166⟩
instance : CallF Tryz.prog 167 := ⟨Tryz.call167⟩
instance : CallF Tryz.prog 168 := ⟨Tryz.call168⟩
instance : CallF Tryz.prog 169 := ⟨Tryz.call169⟩
instance : CallF Tryz.prog 176 := ⟨Tryz.call176⟩
end Go.Sl

/-
  What lies in memory: members, dimensions, spans.
-/
namespace Go.Sl
structure Nd where
  name : ByteArray
  up : Int
deriving Inhabited
@[reducible] def encNd (x : Nd) : List Value := [.string x.name, vI x.up]
structure Sp where
  fr : Int
  to : Int
deriving Inhabited
@[reducible] def encSp (x : Sp) : List Value := [vI x.fr, vI x.to]
/-- A dimension: its name, its members as they lie, its members. -/
structure Dm where
  name : ByteArray
  nv : Value
  hv : nv.oneCell' = true
  nodes : List Nd
instance : Inhabited Dm := ⟨⟨ByteArray.empty, .slice none 0 0, rfl, []⟩⟩
@[reducible] def encDm (x : Dm) : List Value := [.string x.name, x.nv]
instance : EncOne encNd := ⟨fun y u hu => by simp at hu; rcases hu with rfl | rfl <;> rfl⟩
instance : EncOne encSp := ⟨fun y u hu => by simp at hu; rcases hu with rfl | rfl <;> rfl⟩
instance : EncOne encDm := ⟨fun y u hu => by
  simp at hu
  rcases hu with rfl | rfl
  · rfl
  · exact y.hv⟩
instance {s : ByteArray} {n : Int} : Mk encNd [.string s, vI n] ⟨s, n⟩ := ⟨rfl⟩
instance {m n : Int} : Mk encSp [vI m, vI n] ⟨m, n⟩ := ⟨rfl⟩
end Go.Sl

/-
  Regions that draw their order and hold several hard operations, some of them guarded: all orders are walked.
-/
namespace Go.Sl
set_option linter.unusedVariables false
set_option linter.unusedSimpArgs false
section
variable {P : Program} {N : NN} {k : List It} {Q : Post} {e : Env} {h h0 : PHeap} {L V M : List HP} {ops : List Oper} {fuel : Nat} {li : Array Bool}
/-- More is frozen, step by step. -/
class LeT (h h' : PHeap) : Prop where
  le : Hle h h'
instance (priority := high) {h : PHeap} : LeT h h := ⟨Hle.refl h⟩
instance {h a b : PHeap} [l : Le a b] [t : LeT h a] : LeT h b := ⟨t.le.trans l.le⟩
/-- Is an operation wanted? -/
class GuardIs (ops : List Oper) (e : Env) (g : Option (Nat × Bool)) (b : outParam Bool) : Prop where
  eq : ∀ N a (o : Oper), o.guard = g → AE N e a → Region.wanted o (yielded ops.toArray a.tmps) = b
instance : GuardIs ops e none true := ⟨fun N a o ho _ => by unfold Region.wanted; rw [ho]⟩
theorem guard_eq {j t : Nat} {b want : Bool} {a : Act} {o : Oper} (ho : o.guard = some (j, want)) (hd : dstAt ops j = some t) (hv : lk e t = some (.bool b)) (s : AE N e a) : Region.wanted o (yielded ops.toArray a.tmps) = (b == want) := by
  obtain ⟨d, op, ty, pos, af, g⟩ := o
  subst ho
  exact guard_is hd hv s
theorem guard_eq_un {j t : Nat} {want : Bool} {a : Act} {o : Oper} (ho : o.guard = some (j, want)) (hd : dstAt ops j = some t) (hv : lk e t = some undef) (s : AE N e a) : Region.wanted o (yielded ops.toArray a.tmps) = false := by
  obtain ⟨d, op, ty, pos, af, g⟩ := o
  subst ho
  exact guard_un hd hv s
instance {j t : Nat} [hd : Is (dstAt ops j) (some t)] [hv : Is (lk e t) (some (.bool true))] : GuardIs ops e (some (j, true)) true := ⟨fun N a o ho s => guard_eq ho hd.eq hv.eq s⟩
instance {j t : Nat} [hd : Is (dstAt ops j) (some t)] [hv : Is (lk e t) (some (.bool false))] : GuardIs ops e (some (j, false)) true := ⟨fun N a o ho s => guard_eq ho hd.eq hv.eq s⟩
instance {j t : Nat} [hd : Is (dstAt ops j) (some t)] [hv : Is (lk e t) (some (.bool true))] : GuardIs ops e (some (j, false)) false := ⟨fun N a o ho s => guard_eq ho hd.eq hv.eq s⟩
instance {j t : Nat} [hd : Is (dstAt ops j) (some t)] [hv : Is (lk e t) (some (.bool false))] : GuardIs ops e (some (j, true)) false := ⟨fun N a o ho s => guard_eq ho hd.eq hv.eq s⟩
instance {j t : Nat} {b : Bool} [hd : Is (dstAt ops j) (some t)] [hv : Is (lk e t) (some undef)] : GuardIs ops e (some (j, b)) false := ⟨fun N a o ho s => guard_eq_un ho hd.eq hv.eq s⟩
/-! ### A plan of all orders -/
inductive Sch where
  | e
  | s (m : Nat) (r : Sch)
  | h (j : Nat) (r alt : Sch)
  | n
def Sch.alts : Sch → List Nat
  | .h j _ alt => j :: alt.alts
  | _ => []
def Sch.depth : Sch → Nat
  | .e => 0
  | .s _ r => r.depth + 1
  | .h _ r alt => max (r.depth + 1) alt.depth
  | .n => 0
def schOK (ops : Array Oper) (li : Array Bool) (top : Bool) : Sch → Bool
  | .e => top && (Region.ready .any ops li).isEmpty
  | .s m r => top && nextSoft ops li == some m && schOK ops (li.setIfInBounds m true) true r
  | .h j r alt => (!top || ((nextSoft ops li).isNone && !(Region.ready .any ops li).isEmpty && (Region.ready .any ops li).all ((Sch.h j r alt).alts.contains ·))) && schOK ops (li.setIfInBounds j true) true r && schOK ops li false alt
  | .n => !top
/-- What is left of the plan. -/
def GT (P : Program) (N : NN) (ops : List Oper) (V : List HP) (h0 : PHeap) (sch : Sch) (k : List It) (Q : Post) (e : Env) (h : PHeap) (L : List HP) : Prop :=
  Hle h0 h → (∃ w, Cw V h0 w) → ∀ a w, AS N e h L a w → ∀ li fuel, schOK ops.toArray li true sch = true → sch.depth ≤ fuel → wpSched P ops.toArray (Cw V h0) (needs ops.toArray) (fun a w => cQ N.ro P k Q .normal a w) fuel li a w
def GTa (P : Program) (N : NN) (ops : List Oper) (V : List HP) (h0 : PHeap) (sch : Sch) (k : List It) (Q : Post) (e : Env) (h : PHeap) (L : List HP) : Prop :=
  Hle h0 h → (∃ w, Cw V h0 w) → ∀ a w, AS N e h L a w → ∀ li fuel, schOK ops.toArray li false sch = true → sch.depth ≤ fuel + 1 → ∀ j ∈ sch.alts, ∃ o, ops.toArray[j]? = some o ∧
    hardOp P ops.toArray o (fun a' w' => (needs ops.toArray j = true → Cw V h0 w') ∧ wpSched P ops.toArray (Cw V h0) (needs ops.toArray) (fun a w => cQ N.ro P k Q .normal a w) fuel (li.setIfInBounds j true) a' w') a w
/-- Operation m comes next: it is soft; it is to be done, or not. -/
def GTn (P : Program) (N : NN) (ops : List Oper) (V : List HP) (h0 : PHeap) (o : Oper) (r : Sch) (k : List It) (Q : Post) (e : Env) (h : PHeap) (L : List HP) : Prop :=
  Hle h0 h → (∃ w, Cw V h0 w) → ∀ a w, AS N e h L a w → ∃ v e', Yc P ops.toArray (Cw V h0) o v a ∧ AE N e' (a.put o.dst v) ∧ GT P N ops V h0 r k Q e' h L
/-- A hard operation. -/
def GTo (P : Program) (N : NN) (ops : List Oper) (V : List HP) (h0 : PHeap) (o : Oper) (r : Sch) (k : List It) (Q : Post) (e : Env) (h : PHeap) (L : List HP) : Prop :=
  ∀ a w, AE N e a → St h L w → hardOp P ops.toArray o (fun a' w' => ∃ e' h' L', AE N e' a' ∧ Hle h h' ∧ St h' L' w' ∧ Sub L' V ∧ GT P N ops V h0 r k Q e' h' L') a w
structure Both (p q : Prop) : Prop where
  fst : p
  snd : q
theorem GDraw_sch {id : Nat} (sch : Sch) [hm : Mixed P] (hok : (manyOK ops.toArray && schOK ops.toArray (Array.replicate ops.length false) true sch && decide (sch.depth ≤ ops.length)) = true) (g : GT P N ops L h sch k Q e h L) : GDraw P N id ops k Q e h L := by
  simp only [Bool.and_eq_true, decide_eq_true_eq] at hok
  obtain ⟨⟨h1, h2⟩, h3⟩ := hok
  exact GDraw_many h1 fun hl hc a w s => g hl hc a w s _ _ h2 h3
theorem GDraw_schV {id : Nat} (V : List HP) {Z : List HP} (sch : Sch) [hm : Mixed P] (hp : L.Perm (V ++ Z)) (hok : (manyOK ops.toArray && schOK ops.toArray (Array.replicate ops.length false) true sch && decide (sch.depth ≤ ops.length)) = true) (g : GT P N ops V h sch k Q e h L) : GDraw P N id ops k Q e h L := by
  simp only [Bool.and_eq_true, decide_eq_true_eq] at hok
  obtain ⟨⟨h1, h2⟩, h3⟩ := hok
  intro a w s
  have hs : St h L { w with drawn := w.drawn + 1 } := s.st.heap rfl
  have hc : Cw V h { w with drawn := w.drawn + 1 } := Cw.of hp hs
  exact wp_many (C := Cw V h) hm.eq h1 hc (g (Hle.refl h) ⟨_, hc⟩ a _ (s.ae.as hs) _ _ (by simpa using h2) (by simpa using h3))
instance gt_e : Step (GT P N ops V h0 .e k Q e h L) (X P N .normal k Q e h L) := ⟨fun g hl hc a w s li fuel h1 _ => by
  simp only [schOK, Bool.true_and, List.isEmpty_iff] at h1
  cases fuel with
  | zero => exact ⟨h1, g a w s⟩
  | succ fuel =>
    unfold wpSched
    have : nextSoft ops.toArray li = none := by simp [nextSoft, h1]
    simp only [this, h1]
    exact ⟨fun _ => g a w s, fun j hj => (by cases hj)⟩⟩
instance gt_s {m : Nat} {r : Sch} {o : Oper} [ho : Is (atL ops m) (some o)] : Step (GT P N ops V h0 (.s m r) k Q e h L) (GTn P N ops V h0 o r k Q e h L) := ⟨fun g hl hc a w s li fuel h1 h2 => by
  simp only [schOK, Bool.true_and, Bool.and_eq_true, beq_iff_eq] at h1
  simp only [Sch.depth] at h2
  obtain ⟨fuel, rfl⟩ : ∃ f, fuel = f + 1 := ⟨fuel - 1, by omega⟩
  unfold wpSched
  simp only [h1.1]
  obtain ⟨v, e', h3, h4, h5⟩ := g hl hc a w s
  exact ⟨_, v, by have := ho.eq; rw [atL_eq] at this; simpa using this, h3, h5 hl hc _ w (h4.as s.st) _ _ h1.2 (by omega)⟩⟩
instance gt_h {j : Nat} {r alt : Sch} {o : Oper} [ho : Is (atL ops j) (some o)] : Step (GT P N ops V h0 (.h j r alt) k Q e h L) (Both (GTo P N ops V h0 o r k Q e h L) (GTa P N ops V h0 alt k Q e h L)) := ⟨fun g hl hc a w s li fuel h1 h2 => by
  simp only [schOK, Bool.not_true, Bool.false_or, Bool.and_eq_true, Option.isNone_iff_eq_none, Bool.not_eq_true'] at h1
  obtain ⟨⟨⟨⟨h3, h4⟩, h5⟩, h6⟩, h7⟩ := h1
  simp only [Sch.depth] at h2
  obtain ⟨fuel, rfl⟩ : ∃ f, fuel = f + 1 := ⟨fuel - 1, by omega⟩
  unfold wpSched
  simp only [h3]
  refine ⟨fun h => (by rw [h] at h4; cases h4), fun i hi => ?_⟩
  have hm := List.all_eq_true.1 h5 i hi
  simp only [Sch.alts, List.contains_cons, Bool.or_eq_true, beq_iff_eq] at hm
  rcases hm with rfl | hm
  · refine ⟨o, by have := ho.eq; rw [atL_eq] at this; simpa using this, hardOp_mono (fun u w' hk => ?_) (g.fst a w s.ae s.st)⟩
    obtain ⟨e', h', L', k1, k2, k3, k4, k5⟩ := hk
    refine ⟨fun _ => ?_, k5 (hl.trans k2) hc _ w' (k1.as k3) _ _ h6 (by omega)⟩
    obtain ⟨Z, hz⟩ := k4.eq
    exact ⟨Z, _, hl.trans k2, k3.perm hz⟩
  · exact g.snd hl hc a w s li fuel h7 (by omega) i (by simpa using hm)⟩
instance gta_n : Step (GTa P N ops V h0 .n k Q e h L) True := ⟨fun _ hl hc a w s li fuel _ _ j hj => by cases hj⟩
instance gta_h {j : Nat} {r alt : Sch} {o : Oper} [ho : Is (atL ops j) (some o)] : Step (GTa P N ops V h0 (.h j r alt) k Q e h L) (Both (GTo P N ops V h0 o r k Q e h L) (GTa P N ops V h0 alt k Q e h L)) := ⟨fun g hl hc a w s li fuel h1 h2 i hi => by
  simp only [schOK, Bool.not_false, Bool.true_or, Bool.true_and, Bool.and_eq_true] at h1
  simp only [Sch.depth] at h2
  rcases List.mem_cons.1 hi with rfl | hi
  · refine ⟨o, by have := ho.eq; rw [atL_eq] at this; simpa using this, hardOp_mono (fun u w' hk => ?_) (g.fst a w s.ae s.st)⟩
    obtain ⟨e', h', L', k1, k2, k3, k4, k5⟩ := hk
    refine ⟨fun _ => ?_, k5 (hl.trans k2) hc _ w' (k1.as k3) _ _ h1.1 (by omega)⟩
    obtain ⟨Z, hz⟩ := k4.eq
    exact ⟨Z, _, hl.trans k2, k3.perm hz⟩
  · exact g.snd hl hc a w s li fuel h1.2 (by omega) i hi⟩
instance gtn_soft {d : Nat} {op : Op} {ty : TypeId} {pos : String} {af : Array Edge} {g : Option (Nat × Bool)} {r : Sch} {s : Prop} {v : Value} [hg : GuardIs ops e g true] [hs : Soft P N V h0 e op s v] [hN : InN N d] :
    Step (GTn P N ops V h0 ⟨some d, op, ty, pos, af, g⟩ r k Q e h L) (Side s (GT P N ops V h0 r k Q ((d, v) :: e) h L)) :=
  ⟨fun hk hl hc a w se => ⟨v, _, .inl ⟨hg.eq N a _ rfl se.ae, fun w' hw' => hs.run hk.side hc (some d) ty pos af g a w' se.ae hw'⟩, se.ae.put hN.eq, hk.rest⟩⟩
instance gtn_skip {d : Nat} {op : Op} {ty : TypeId} {pos : String} {af : Array Edge} {g : Option (Nat × Bool)} {r : Sch} [hg : GuardIs ops e g false] [hN : InN N d] :
    Step (GTn P N ops V h0 ⟨some d, op, ty, pos, af, g⟩ r k Q e h L) (GT P N ops V h0 r k Q ((d, undef) :: e) h L) :=
  ⟨fun hk hl hc a w se => ⟨undef, _, .inr ⟨hg.eq N a _ rfl se.ae, rfl⟩, se.ae.put hN.eq, hk⟩⟩
instance gto_skip {d : Nat} {op : Op} {ty : TypeId} {pos : String} {af : Array Edge} {g : Option (Nat × Bool)} {r : Sch} [hg : GuardIs ops e g false] [hN : InN N d] [hs : Sub L V] :
    Step (GTo P N ops V h0 ⟨some d, op, ty, pos, af, g⟩ r k Q e h L) (GT P N ops V h0 r k Q ((d, undef) :: e) h L) :=
  ⟨fun hk a w se st => by
    unfold hardOp
    rw [if_neg (by rw [hg.eq N a _ rfl se]; simp)]
    exact ⟨_, h, L, se.put hN.eq, Hle.refl h, st, hs, hk⟩⟩
theorem GTo_do {o : Oper} {r : Sch} [hg : GuardIs ops e o.guard true] (hh : HardS P N o e h L (fun e' h' L' => Sub L' V ∧ GT P N ops V h0 r k Q e' h' L')) : GTo P N ops V h0 o r k Q e h L := fun a w se st => by
  unfold hardOp
  rw [if_pos (hg.eq N a _ rfl se)]
  obtain ⟨h1, h2⟩ := hh a w se st
  refine ⟨Oper.wp_mono (fun a' w' hk => ?_) h1, h2⟩
  obtain ⟨e', h', L', k1, k2, k3, k4⟩ := hk
  exact ⟨e', h', L', k1, k2, k3, k4⟩
theorem GT_app {d : Option Nat} {v : Value} {r : Sch} {X M LL : List HP} [ha : AppL X M LL] (hs : Sub LL V) (g : GT P N ops V h0 r k Q (putR d v e) h LL) : Sub (X ++ M) V ∧ GT P N ops V h0 r k Q (putR d v e) h (X ++ M) := by
  rw [ha.eq]; exact ⟨hs, g⟩
/-! ### Tests whose outcome is known -/
class Known (p : Prop) : Prop where
  yes : p
instance guard_known {j t : Nat} {p : Prop} [Decidable p] [hp : Known p] [hd : Is (dstAt ops j) (some t)] [hv : Is (lk e t) (some (.bool (decide p)))] : GuardIs ops e (some (j, true)) true := ⟨fun N a o ho s => guard_eq (b := true) ho hd.eq (by rw [hv.eq]; simp [hp.yes]) s⟩
instance guard_known' {j t : Nat} {p : Prop} [Decidable p] [hp : Known p] [hd : Is (dstAt ops j) (some t)] [hv : Is (lk e t) (some (.bool (decide p)))] : GuardIs ops e (some (j, false)) false := ⟨fun N a o ho s => guard_eq (b := true) ho hd.eq (by rw [hv.eq]; simp [hp.yes]) s⟩
instance pick_known {c x y : Operand} {v : Value} {p : Prop} [Decidable p] [hp : Known p] [hc : Is (lkO e c) (some (.bool (decide p)))] [hx : Is (lkO e x) (some v)] : Soft P N V h e (.pick c x y) True v := ⟨fun _ _ d ty pos af g a w s _ => by
  have h1 := s.eval hc.eq
  rw [decide_eq_true hp.yes] at h1
  simp [execOp, h1, s.eval hx.eq, asBool]⟩
instance {α : Type} {n : α} : Known (n = n) := ⟨rfl⟩
section
variable {d : Option Tmp} {op : Op} {ty : TypeId} {pos : String} {af : Array Edge} {j t i : Nat} {p : Prop} [Decidable p] {l : List Oper}
instance go_known [hp : Known p] [hd : Is (dstAt ops j) (some t)] [hv : Is (lk e t) (some (.bool (decide p)))] : Step (GO P N ops (⟨d, op, ty, pos, af, some (j, true)⟩ :: l) k Q e h L) (GO1 P N ops ⟨d, op, ty, pos, af, some (j, true)⟩ l k Q e h L) :=
  ⟨GO_of_GO1 fun a s => by rw [guard_is (b := true) hd.eq (by rw [hv.eq]; simp [hp.yes]) s]; rfl⟩
instance gd_known [hp : Known p] [hd : Is (dstAt ops j) (some t)] [hv : Is (lk e t) (some (.bool (decide p)))] : Step (GD P N ops V h0 i (⟨d, op, ty, pos, af, some (j, true)⟩ :: l) k Q e h L) (GD1 P N ops V h0 i ⟨d, op, ty, pos, af, some (j, true)⟩ l k Q e h L) :=
  ⟨GD_of_GD1 fun a s => by rw [guard_is (b := true) hd.eq (by rw [hv.eq]; simp [hp.yes]) s]; rfl⟩
instance cond_known {x y : Code} [hp : Known p] [hv : Is (lk e t) (some (.bool (decide p)))] : Step (G P N (.cond (.tmp t) x y) k Q e h L) (G P N x k Q e h L) :=
  ⟨fun g a w s => wpIn_cond_true (by rw [s.ae.eval (x := .tmp t) hv.eq]; simp [hp.yes]) (g a w s)⟩
end
/-! ### Regions of many operations, written in two parts -/
class AppO (a b : List Oper) (c : outParam (List Oper)) : Prop where
  eq : a.append b = c
instance {b : List Oper} : AppO [] b b := ⟨rfl⟩
instance {x : Oper} {a b c : List Oper} [r : AppO a b c] : AppO (x :: a) b (x :: c) := ⟨by show x :: a.append b = x :: c; rw [r.eq]⟩
instance (priority := high) step_region2 {id : Nat} {a b l : List Oper} [r : AppO a b l] : Step (G P N (.region id (a.append b).toArray false) k Q e h L) (GO P N l l k Q e h L) := ⟨fun g => by rw [r.eq]; exact fun a w s => wpIn_region_lit (g a w s)⟩
instance (priority := high) step_draw2 {id : Nat} {a b l : List Oper} [r : AppO a b l] : Step (G P N (.region id (a.append b).toArray true) k Q e h L) (GDraw P N id l k Q e h L) := ⟨fun g => by rw [r.eq]; exact g⟩
/-! ### Slices written out, as lists -/
class EncT (P : Program) (el : TypeId) {α : outParam Type} (enc : outParam (α → List Value)) (k : outParam Nat) : Prop where
  one : EncOne enc
section
variable {d : Nat} {ty : TypeId} {pos : String} {af : Array Edge} {g : Option (Nat × Bool)} {C : Env → PHeap → List HP → Prop}
theorem hard_buildO {t el n sz : Nat} {agg : Bool} {z : Value} {ps : List (Nat × Operand)} {zs cs0 cs : List Value} {α : Type} {enc : α → List Value} {kk : Nat} {ys : List α} [ht : SliT P t el] [he : EncT P el enc kk] [hs : TySz P el agg sz] [hz : ZeroT P el z] [hzc : CellsOf L h z zs] [hl : LenN zs sz] [hr : RepN n zs cs0] [hf : Fill P L h e (fun i => some (i * sz, sz)) ps cs0 cs] [hd : Dec enc kk cs ys] [hy : LenL ys n] [hN : InN N d]
    (hsz : 0 < n * sz ∧ n * sz ≤ 16777216) (hk : ∀ b, C ((d, .slice (some ⟨b, 0, none⟩) n n) :: e) h (slo enc kk (.slice (some ⟨b, 0, none⟩) n n) ys :: L)) : HardS P N ⟨some d, .buildSlice t n ps.toArray, ty, pos, af, g⟩ e h L C := by
  intro a w s st
  have := hard_buildSlice (P := P) (N := N) (d := d) (ty := ty) (pos := pos) (af := af) (g := g) (t := t) (n := n) (ps := ps) (L := L) (e := e) (h := h) (C := fun e' h' L' => ∃ b, e' = (d, .slice (some ⟨b, 0, none⟩) n n) :: e ∧ h' = h ∧ L' = blk b (.cells cs.toArray el (0, 0)) :: L) hsz (fun b => ⟨b, rfl, rfl, rfl⟩) a w s st
  refine ⟨Oper.wp_mono (fun a' w' hq => ?_) this.1, this.2⟩
  obtain ⟨e', h', L', h1, h2, h3, b, rfl, rfl, rfl⟩ := hq
  refine ⟨_, h', slo enc kk (.slice (some ⟨b, 0, none⟩) n n) ys :: L, h1, h2, ?_, hk b⟩
  have ho := he.one
  have := own_st (L := blk b (.cells cs.toArray el (0, 0)) :: L) (enc := enc) (kk := kk) (ys := ys) (R := L) ⟨.refl _⟩ hd ho h3
  rw [hy.eq] at this
  exact this
end
theorem hard_callP {C : Env → PHeap → List HP → Prop} {d : Option Nat} {ty : TypeId} {pos : String} {af : Array Edge} {g : Option (Nat × Bool)} {n : FuncId} {f : Operand} {xs : List Operand} {ts : Array TypeId} {vs : List Value} {s : Prop} {v : Value} [hf : Is (lkO e f) (some (.func (.func n) #[] #[]))] [ha : ArgsOf e xs vs] [hcf : CallF P n] [hc : CallV P n vs h s v] [hd : DstOk N d]
    (hs : s) (hT : C (putR d v e) h ([] ++ L)) : HardS P N ⟨d, .call { callee := .value f, args := xs.toArray, argTypes := ts }, ty, pos, af, g⟩ e h L C :=
  hard_call (M := L) (Lp := []) hf.eq (ha.eq N) hcf hd (.refl _) (hc.spec hs) hT
end
end Go.Sl
