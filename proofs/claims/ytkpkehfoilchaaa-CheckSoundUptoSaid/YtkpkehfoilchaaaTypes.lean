/- Facts on the types of this translation: closed, each by the kernel. Written by program (gen_types.py). -/
import Derived.Test.YtkpkehfoilchaaaAuto
import Derived.Test.YtkpkehfoilchaaaProg
import Derived.KernelRfl
namespace Go.Proofs.Ytkpkehfoilchaaa
theorem mixed : Try.prog.follows .mixedOrders = true := by kernel_rfl
instance : TSize Try.prog 1 1 := ⟨fun _ => by kernel_rfl⟩
instance : TBytes Try.prog 1 8 := ⟨by kernel_rfl⟩
instance : TPlain Try.prog 1 := ⟨fun _ => by kernel_rfl⟩
instance : TZero Try.prog 1 (Value.nilFunc) := ⟨fun _ => by kernel_rfl⟩
instance : TSize Try.prog 2 1 := ⟨fun _ => by kernel_rfl⟩
instance : TBytes Try.prog 2 8 := ⟨by kernel_rfl⟩
instance : TPlain Try.prog 2 := ⟨fun _ => by kernel_rfl⟩
instance : TInt Try.prog 2 .i64 := ⟨by kernel_rfl⟩
instance : TZero Try.prog 2 (Value.int .i64 0) := ⟨fun _ => by kernel_rfl⟩
instance : TSize Try.prog 3 1 := ⟨fun _ => by kernel_rfl⟩
instance : TBytes Try.prog 3 8 := ⟨by kernel_rfl⟩
instance : TPlain Try.prog 3 := ⟨fun _ => by kernel_rfl⟩
instance : TInt Try.prog 3 .i64 := ⟨by kernel_rfl⟩
instance : TZero Try.prog 3 (Value.int .i64 0) := ⟨fun _ => by kernel_rfl⟩
instance : TSize Try.prog 4 1 := ⟨fun _ => by kernel_rfl⟩
instance : TBytes Try.prog 4 1 := ⟨by kernel_rfl⟩
instance : TPlain Try.prog 4 := ⟨fun _ => by kernel_rfl⟩
instance : TBool Try.prog 4 := ⟨by kernel_rfl⟩
instance : TZero Try.prog 4 (Value.bool false) := ⟨fun _ => by kernel_rfl⟩
instance : TSize Try.prog 5 1 := ⟨fun _ => by kernel_rfl⟩
instance : TBytes Try.prog 5 1 := ⟨by kernel_rfl⟩
instance : TPlain Try.prog 5 := ⟨fun _ => by kernel_rfl⟩
instance : TInt Try.prog 5 .u8 := ⟨by kernel_rfl⟩
instance : TZero Try.prog 5 (Value.int .u8 0) := ⟨fun _ => by kernel_rfl⟩
instance : TSize Try.prog 6 1 := ⟨fun _ => by kernel_rfl⟩
instance : TBytes Try.prog 6 1 := ⟨by kernel_rfl⟩
instance : TPlain Try.prog 6 := ⟨fun _ => by kernel_rfl⟩
instance : TInt Try.prog 6 .u8 := ⟨by kernel_rfl⟩
instance : TZero Try.prog 6 (Value.int .u8 0) := ⟨fun _ => by kernel_rfl⟩
instance : TSize Try.prog 7 4 := ⟨fun _ => by kernel_rfl⟩
instance : TBytes Try.prog 7 24 := ⟨by kernel_rfl⟩
instance : TAgg Try.prog 7 := ⟨fun _ => by kernel_rfl⟩
instance : TZero Try.prog 7 (Value.agg #[Value.int .i64 0, Value.int .i64 0, Value.bool false, Value.int .u8 0]) := ⟨fun _ => by kernel_rfl⟩
instance : TField Try.prog 7 0 0 := ⟨fun _ _ _ => by kernel_rfl⟩
instance : TFld Try.prog 7 0 0 := ⟨fun _ _ => by kernel_rfl⟩
instance : TField Try.prog 7 1 1 := ⟨fun _ _ _ => by kernel_rfl⟩
instance : TFld Try.prog 7 1 1 := ⟨fun _ _ => by kernel_rfl⟩
instance : TField Try.prog 7 2 2 := ⟨fun _ _ _ => by kernel_rfl⟩
instance : TFld Try.prog 7 2 2 := ⟨fun _ _ => by kernel_rfl⟩
instance : TField Try.prog 7 3 3 := ⟨fun _ _ _ => by kernel_rfl⟩
instance : TFld Try.prog 7 3 3 := ⟨fun _ _ => by kernel_rfl⟩
instance : TStr Try.prog 7 [Value.int .i64 0, Value.int .i64 0, Value.bool false, Value.int .u8 0] [(0, 1), (1, 1), (2, 1), (3, 1)] := ⟨fun _ => by kernel_rfl, fun _ => by kernel_rfl⟩
instance : TSize Try.prog 8 4 := ⟨fun _ => by kernel_rfl⟩
instance : TBytes Try.prog 8 24 := ⟨by kernel_rfl⟩
instance : TAgg Try.prog 8 := ⟨fun _ => by kernel_rfl⟩
instance : TZero Try.prog 8 (Value.agg #[Value.int .i64 0, Value.int .i64 0, Value.bool false, Value.int .u8 0]) := ⟨fun _ => by kernel_rfl⟩
instance : TField Try.prog 8 0 0 := ⟨fun _ _ _ => by kernel_rfl⟩
instance : TFld Try.prog 8 0 0 := ⟨fun _ _ => by kernel_rfl⟩
instance : TField Try.prog 8 1 1 := ⟨fun _ _ _ => by kernel_rfl⟩
instance : TFld Try.prog 8 1 1 := ⟨fun _ _ => by kernel_rfl⟩
instance : TField Try.prog 8 2 2 := ⟨fun _ _ _ => by kernel_rfl⟩
instance : TFld Try.prog 8 2 2 := ⟨fun _ _ => by kernel_rfl⟩
instance : TField Try.prog 8 3 3 := ⟨fun _ _ _ => by kernel_rfl⟩
instance : TFld Try.prog 8 3 3 := ⟨fun _ _ => by kernel_rfl⟩
instance : TStr Try.prog 8 [Value.int .i64 0, Value.int .i64 0, Value.bool false, Value.int .u8 0] [(0, 1), (1, 1), (2, 1), (3, 1)] := ⟨fun _ => by kernel_rfl, fun _ => by kernel_rfl⟩
instance : TSize Try.prog 9 1 := ⟨fun _ => by kernel_rfl⟩
instance : TBytes Try.prog 9 16 := ⟨by kernel_rfl⟩
instance : TPlain Try.prog 9 := ⟨fun _ => by kernel_rfl⟩
instance : TSize Try.prog 10 1 := ⟨fun _ => by kernel_rfl⟩
instance : TBytes Try.prog 10 16 := ⟨by kernel_rfl⟩
instance : TPlain Try.prog 10 := ⟨fun _ => by kernel_rfl⟩
instance : TSize Try.prog 11 1 := ⟨fun _ => by kernel_rfl⟩
instance : TBytes Try.prog 11 16 := ⟨by kernel_rfl⟩
instance : TPlain Try.prog 11 := ⟨fun _ => by kernel_rfl⟩
instance : TSize Try.prog 12 1 := ⟨fun _ => by kernel_rfl⟩
instance : TBytes Try.prog 12 8 := ⟨by kernel_rfl⟩
instance : TPlain Try.prog 12 := ⟨fun _ => by kernel_rfl⟩
instance : TInt Try.prog 12 .u64 := ⟨by kernel_rfl⟩
instance : TZero Try.prog 12 (Value.int .u64 0) := ⟨fun _ => by kernel_rfl⟩
instance : TSize Try.prog 13 2 := ⟨fun _ => by kernel_rfl⟩
instance : TBytes Try.prog 13 24 := ⟨by kernel_rfl⟩
instance : TAgg Try.prog 13 := ⟨fun _ => by kernel_rfl⟩
instance : TField Try.prog 13 0 0 := ⟨fun _ _ _ => by kernel_rfl⟩
instance : TFld Try.prog 13 0 0 := ⟨fun _ _ => by kernel_rfl⟩
instance : TField Try.prog 13 1 1 := ⟨fun _ _ _ => by kernel_rfl⟩
instance : TFld Try.prog 13 1 1 := ⟨fun _ _ => by kernel_rfl⟩
instance : TSize Try.prog 14 2 := ⟨fun _ => by kernel_rfl⟩
instance : TBytes Try.prog 14 24 := ⟨by kernel_rfl⟩
instance : TAgg Try.prog 14 := ⟨fun _ => by kernel_rfl⟩
instance : TField Try.prog 14 0 0 := ⟨fun _ _ _ => by kernel_rfl⟩
instance : TFld Try.prog 14 0 0 := ⟨fun _ _ => by kernel_rfl⟩
instance : TField Try.prog 14 1 1 := ⟨fun _ _ _ => by kernel_rfl⟩
instance : TFld Try.prog 14 1 1 := ⟨fun _ _ => by kernel_rfl⟩
instance : TSize Try.prog 15 1 := ⟨fun _ => by kernel_rfl⟩
instance : TBytes Try.prog 15 8 := ⟨by kernel_rfl⟩
instance : TPlain Try.prog 15 := ⟨fun _ => by kernel_rfl⟩
instance : TPtr Try.prog 15 141 := ⟨by kernel_rfl⟩
instance : TZero Try.prog 15 (Value.pointer none) := ⟨fun _ => by kernel_rfl⟩
instance : TSize Try.prog 16 1 := ⟨fun _ => by kernel_rfl⟩
instance : TBytes Try.prog 16 8 := ⟨by kernel_rfl⟩
instance : TPlain Try.prog 16 := ⟨fun _ => by kernel_rfl⟩
instance : TPtr Try.prog 16 144 := ⟨by kernel_rfl⟩
instance : TZero Try.prog 16 (Value.pointer none) := ⟨fun _ => by kernel_rfl⟩
instance : TSize Try.prog 17 1 := ⟨fun _ => by kernel_rfl⟩
instance : TBytes Try.prog 17 8 := ⟨by kernel_rfl⟩
instance : TPlain Try.prog 17 := ⟨fun _ => by kernel_rfl⟩
instance : TPtr Try.prog 17 152 := ⟨by kernel_rfl⟩
instance : TZero Try.prog 17 (Value.pointer none) := ⟨fun _ => by kernel_rfl⟩
instance : TSize Try.prog 18 1 := ⟨fun _ => by kernel_rfl⟩
instance : TBytes Try.prog 18 8 := ⟨by kernel_rfl⟩
instance : TAgg Try.prog 18 := ⟨fun _ => by kernel_rfl⟩
instance : TZero Try.prog 18 (Value.agg #[Value.pointer none]) := ⟨fun _ => by kernel_rfl⟩
instance : TField Try.prog 18 0 0 := ⟨fun _ _ _ => by kernel_rfl⟩
instance : TFld Try.prog 18 0 0 := ⟨fun _ _ => by kernel_rfl⟩
instance : TStr Try.prog 18 [Value.pointer none] [(0, 1)] := ⟨fun _ => by kernel_rfl, fun _ => by kernel_rfl⟩
instance : TSize Try.prog 19 1 := ⟨fun _ => by kernel_rfl⟩
instance : TBytes Try.prog 19 8 := ⟨by kernel_rfl⟩
instance : TAgg Try.prog 19 := ⟨fun _ => by kernel_rfl⟩
instance : TZero Try.prog 19 (Value.agg #[Value.pointer none]) := ⟨fun _ => by kernel_rfl⟩
instance : TField Try.prog 19 0 0 := ⟨fun _ _ _ => by kernel_rfl⟩
instance : TFld Try.prog 19 0 0 := ⟨fun _ _ => by kernel_rfl⟩
instance : TStr Try.prog 19 [Value.pointer none] [(0, 1)] := ⟨fun _ => by kernel_rfl, fun _ => by kernel_rfl⟩
instance : TSize Try.prog 20 1 := ⟨fun _ => by kernel_rfl⟩
instance : TBytes Try.prog 20 16 := ⟨by kernel_rfl⟩
instance : TPlain Try.prog 20 := ⟨fun _ => by kernel_rfl⟩
instance : TZero Try.prog 20 (Value.nilIface) := ⟨fun _ => by kernel_rfl⟩
instance : TSize Try.prog 21 1 := ⟨fun _ => by kernel_rfl⟩
instance : TBytes Try.prog 21 4 := ⟨by kernel_rfl⟩
instance : TPlain Try.prog 21 := ⟨fun _ => by kernel_rfl⟩
instance : TInt Try.prog 21 .i32 := ⟨by kernel_rfl⟩
instance : TZero Try.prog 21 (Value.int .i32 0) := ⟨fun _ => by kernel_rfl⟩
instance : TSize Try.prog 22 1 := ⟨fun _ => by kernel_rfl⟩
instance : TBytes Try.prog 22 24 := ⟨by kernel_rfl⟩
instance : TPlain Try.prog 22 := ⟨fun _ => by kernel_rfl⟩
instance : TSlice Try.prog 22 39 := ⟨by kernel_rfl⟩
instance : TZero Try.prog 22 (Value.slice none 0 0) := ⟨fun _ => by kernel_rfl⟩
instance : TElem Try.prog 22 39 (Value.slice none 0 0) 1 24 := ⟨by kernel_rfl, by kernel_rfl, by kernel_rfl, by decide, by decide⟩
instance : TSize Try.prog 23 2 := ⟨fun _ => by kernel_rfl⟩
instance : TBytes Try.prog 23 32 := ⟨by kernel_rfl⟩
instance : TAgg Try.prog 23 := ⟨fun _ => by kernel_rfl⟩
instance : TZero Try.prog 23 (Value.agg #[Value.int .i64 0, Value.slice none 0 0]) := ⟨fun _ => by kernel_rfl⟩
instance : TField Try.prog 23 0 0 := ⟨fun _ _ _ => by kernel_rfl⟩
instance : TFld Try.prog 23 0 0 := ⟨fun _ _ => by kernel_rfl⟩
instance : TField Try.prog 23 1 1 := ⟨fun _ _ _ => by kernel_rfl⟩
instance : TFld Try.prog 23 1 1 := ⟨fun _ _ => by kernel_rfl⟩
instance : TStr Try.prog 23 [Value.int .i64 0, Value.slice none 0 0] [(0, 1), (1, 1)] := ⟨fun _ => by kernel_rfl, fun _ => by kernel_rfl⟩
instance : TSize Try.prog 24 2 := ⟨fun _ => by kernel_rfl⟩
instance : TBytes Try.prog 24 32 := ⟨by kernel_rfl⟩
instance : TAgg Try.prog 24 := ⟨fun _ => by kernel_rfl⟩
instance : TZero Try.prog 24 (Value.agg #[Value.int .i64 0, Value.slice none 0 0]) := ⟨fun _ => by kernel_rfl⟩
instance : TField Try.prog 24 0 0 := ⟨fun _ _ _ => by kernel_rfl⟩
instance : TFld Try.prog 24 0 0 := ⟨fun _ _ => by kernel_rfl⟩
instance : TField Try.prog 24 1 1 := ⟨fun _ _ _ => by kernel_rfl⟩
instance : TFld Try.prog 24 1 1 := ⟨fun _ _ => by kernel_rfl⟩
instance : TStr Try.prog 24 [Value.int .i64 0, Value.slice none 0 0] [(0, 1), (1, 1)] := ⟨fun _ => by kernel_rfl, fun _ => by kernel_rfl⟩
instance : TSize Try.prog 25 1 := ⟨fun _ => by kernel_rfl⟩
instance : TBytes Try.prog 25 24 := ⟨by kernel_rfl⟩
instance : TPlain Try.prog 25 := ⟨fun _ => by kernel_rfl⟩
instance : TSlice Try.prog 25 42 := ⟨by kernel_rfl⟩
instance : TZero Try.prog 25 (Value.slice none 0 0) := ⟨fun _ => by kernel_rfl⟩
instance : TElem Try.prog 25 42 (Value.agg #[Value.int .u8 0, Value.int .i64 0, Value.slice none 0 0, Value.slice none 0 0]) 4 64 := ⟨by kernel_rfl, by kernel_rfl, by kernel_rfl, by decide, by decide⟩
instance : TSize Try.prog 26 1 := ⟨fun _ => by kernel_rfl⟩
instance : TBytes Try.prog 26 8 := ⟨by kernel_rfl⟩
instance : TPlain Try.prog 26 := ⟨fun _ => by kernel_rfl⟩
instance : TZero Try.prog 26 (Value.nilFunc) := ⟨fun _ => by kernel_rfl⟩
instance : TSize Try.prog 27 1 := ⟨fun _ => by kernel_rfl⟩
instance : TBytes Try.prog 27 8 := ⟨by kernel_rfl⟩
instance : TPlain Try.prog 27 := ⟨fun _ => by kernel_rfl⟩
instance : TZero Try.prog 27 (Value.nilFunc) := ⟨fun _ => by kernel_rfl⟩
instance : TSize Try.prog 28 1 := ⟨fun _ => by kernel_rfl⟩
instance : TBytes Try.prog 28 8 := ⟨by kernel_rfl⟩
instance : TPlain Try.prog 28 := ⟨fun _ => by kernel_rfl⟩
instance : TPtr Try.prog 28 55 := ⟨by kernel_rfl⟩
instance : TZero Try.prog 28 (Value.pointer none) := ⟨fun _ => by kernel_rfl⟩
instance : TSize Try.prog 29 1 := ⟨fun _ => by kernel_rfl⟩
instance : TBytes Try.prog 29 8 := ⟨by kernel_rfl⟩
instance : TPlain Try.prog 29 := ⟨fun _ => by kernel_rfl⟩
instance : TInt Try.prog 29 .i64 := ⟨by kernel_rfl⟩
instance : TZero Try.prog 29 (Value.int .i64 0) := ⟨fun _ => by kernel_rfl⟩
instance : TSize Try.prog 31 1 := ⟨fun _ => by kernel_rfl⟩
instance : TBytes Try.prog 31 8 := ⟨by kernel_rfl⟩
instance : TPlain Try.prog 31 := ⟨fun _ => by kernel_rfl⟩
instance : TZero Try.prog 31 (Value.nilFunc) := ⟨fun _ => by kernel_rfl⟩
instance : TSize Try.prog 32 1 := ⟨fun _ => by kernel_rfl⟩
instance : TBytes Try.prog 32 24 := ⟨by kernel_rfl⟩
instance : TPlain Try.prog 32 := ⟨fun _ => by kernel_rfl⟩
instance : TSlice Try.prog 32 4 := ⟨by kernel_rfl⟩
instance : TZero Try.prog 32 (Value.slice none 0 0) := ⟨fun _ => by kernel_rfl⟩
instance : TElem Try.prog 32 4 (Value.bool false) 1 1 := ⟨by kernel_rfl, by kernel_rfl, by kernel_rfl, by decide, by decide⟩
instance : TSize Try.prog 33 1 := ⟨fun _ => by kernel_rfl⟩
instance : TBytes Try.prog 33 24 := ⟨by kernel_rfl⟩
instance : TPlain Try.prog 33 := ⟨fun _ => by kernel_rfl⟩
instance : TSlice Try.prog 33 4 := ⟨by kernel_rfl⟩
instance : TZero Try.prog 33 (Value.slice none 0 0) := ⟨fun _ => by kernel_rfl⟩
instance : TElem Try.prog 33 4 (Value.bool false) 1 1 := ⟨by kernel_rfl, by kernel_rfl, by kernel_rfl, by decide, by decide⟩
instance : TSize Try.prog 35 1 := ⟨fun _ => by kernel_rfl⟩
instance : TBytes Try.prog 35 8 := ⟨by kernel_rfl⟩
instance : TPlain Try.prog 35 := ⟨fun _ => by kernel_rfl⟩
instance : TZero Try.prog 35 (Value.nilFunc) := ⟨fun _ => by kernel_rfl⟩
instance : TSize Try.prog 36 1 := ⟨fun _ => by kernel_rfl⟩
instance : TBytes Try.prog 36 8 := ⟨by kernel_rfl⟩
instance : TPlain Try.prog 36 := ⟨fun _ => by kernel_rfl⟩
instance : TZero Try.prog 36 (Value.nilFunc) := ⟨fun _ => by kernel_rfl⟩
instance : TSize Try.prog 37 1 := ⟨fun _ => by kernel_rfl⟩
instance : TBytes Try.prog 37 8 := ⟨by kernel_rfl⟩
instance : TPlain Try.prog 37 := ⟨fun _ => by kernel_rfl⟩
instance : TZero Try.prog 37 (Value.nilFunc) := ⟨fun _ => by kernel_rfl⟩
instance : TSize Try.prog 38 1 := ⟨fun _ => by kernel_rfl⟩
instance : TBytes Try.prog 38 24 := ⟨by kernel_rfl⟩
instance : TPlain Try.prog 38 := ⟨fun _ => by kernel_rfl⟩
instance : TSlice Try.prog 38 46 := ⟨by kernel_rfl⟩
instance : TZero Try.prog 38 (Value.slice none 0 0) := ⟨fun _ => by kernel_rfl⟩
instance : TElem Try.prog 38 46 (Value.int .i32 0) 1 4 := ⟨by kernel_rfl, by kernel_rfl, by kernel_rfl, by decide, by decide⟩
instance : TSize Try.prog 39 1 := ⟨fun _ => by kernel_rfl⟩
instance : TBytes Try.prog 39 24 := ⟨by kernel_rfl⟩
instance : TPlain Try.prog 39 := ⟨fun _ => by kernel_rfl⟩
instance : TSlice Try.prog 39 46 := ⟨by kernel_rfl⟩
instance : TZero Try.prog 39 (Value.slice none 0 0) := ⟨fun _ => by kernel_rfl⟩
instance : TElem Try.prog 39 46 (Value.int .i32 0) 1 4 := ⟨by kernel_rfl, by kernel_rfl, by kernel_rfl, by decide, by decide⟩
instance : TSize Try.prog 40 1 := ⟨fun _ => by kernel_rfl⟩
instance : TBytes Try.prog 40 24 := ⟨by kernel_rfl⟩
instance : TPlain Try.prog 40 := ⟨fun _ => by kernel_rfl⟩
instance : TSlice Try.prog 40 2 := ⟨by kernel_rfl⟩
instance : TZero Try.prog 40 (Value.slice none 0 0) := ⟨fun _ => by kernel_rfl⟩
instance : TElem Try.prog 40 2 (Value.int .i64 0) 1 8 := ⟨by kernel_rfl, by kernel_rfl, by kernel_rfl, by decide, by decide⟩
instance : TSize Try.prog 41 4 := ⟨fun _ => by kernel_rfl⟩
instance : TBytes Try.prog 41 64 := ⟨by kernel_rfl⟩
instance : TAgg Try.prog 41 := ⟨fun _ => by kernel_rfl⟩
instance : TZero Try.prog 41 (Value.agg #[Value.int .u8 0, Value.int .i64 0, Value.slice none 0 0, Value.slice none 0 0]) := ⟨fun _ => by kernel_rfl⟩
instance : TField Try.prog 41 0 0 := ⟨fun _ _ _ => by kernel_rfl⟩
instance : TFld Try.prog 41 0 0 := ⟨fun _ _ => by kernel_rfl⟩
instance : TField Try.prog 41 1 1 := ⟨fun _ _ _ => by kernel_rfl⟩
instance : TFld Try.prog 41 1 1 := ⟨fun _ _ => by kernel_rfl⟩
instance : TField Try.prog 41 2 2 := ⟨fun _ _ _ => by kernel_rfl⟩
instance : TFld Try.prog 41 2 2 := ⟨fun _ _ => by kernel_rfl⟩
instance : TField Try.prog 41 3 3 := ⟨fun _ _ _ => by kernel_rfl⟩
instance : TFld Try.prog 41 3 3 := ⟨fun _ _ => by kernel_rfl⟩
instance : TStr Try.prog 41 [Value.int .u8 0, Value.int .i64 0, Value.slice none 0 0, Value.slice none 0 0] [(0, 1), (1, 1), (2, 1), (3, 1)] := ⟨fun _ => by kernel_rfl, fun _ => by kernel_rfl⟩
instance : TSize Try.prog 42 4 := ⟨fun _ => by kernel_rfl⟩
instance : TBytes Try.prog 42 64 := ⟨by kernel_rfl⟩
instance : TAgg Try.prog 42 := ⟨fun _ => by kernel_rfl⟩
instance : TZero Try.prog 42 (Value.agg #[Value.int .u8 0, Value.int .i64 0, Value.slice none 0 0, Value.slice none 0 0]) := ⟨fun _ => by kernel_rfl⟩
instance : TField Try.prog 42 0 0 := ⟨fun _ _ _ => by kernel_rfl⟩
instance : TFld Try.prog 42 0 0 := ⟨fun _ _ => by kernel_rfl⟩
instance : TField Try.prog 42 1 1 := ⟨fun _ _ _ => by kernel_rfl⟩
instance : TFld Try.prog 42 1 1 := ⟨fun _ _ => by kernel_rfl⟩
instance : TField Try.prog 42 2 2 := ⟨fun _ _ _ => by kernel_rfl⟩
instance : TFld Try.prog 42 2 2 := ⟨fun _ _ => by kernel_rfl⟩
instance : TField Try.prog 42 3 3 := ⟨fun _ _ _ => by kernel_rfl⟩
instance : TFld Try.prog 42 3 3 := ⟨fun _ _ => by kernel_rfl⟩
instance : TStr Try.prog 42 [Value.int .u8 0, Value.int .i64 0, Value.slice none 0 0, Value.slice none 0 0] [(0, 1), (1, 1), (2, 1), (3, 1)] := ⟨fun _ => by kernel_rfl, fun _ => by kernel_rfl⟩
instance : TSize Try.prog 43 1 := ⟨fun _ => by kernel_rfl⟩
instance : TBytes Try.prog 43 8 := ⟨by kernel_rfl⟩
instance : TPlain Try.prog 43 := ⟨fun _ => by kernel_rfl⟩
instance : TZero Try.prog 43 (Value.nilFunc) := ⟨fun _ => by kernel_rfl⟩
instance : TSize Try.prog 44 1 := ⟨fun _ => by kernel_rfl⟩
instance : TBytes Try.prog 44 8 := ⟨by kernel_rfl⟩
instance : TPlain Try.prog 44 := ⟨fun _ => by kernel_rfl⟩
instance : TZero Try.prog 44 (Value.nilFunc) := ⟨fun _ => by kernel_rfl⟩
instance : TSize Try.prog 45 1 := ⟨fun _ => by kernel_rfl⟩
instance : TBytes Try.prog 45 8 := ⟨by kernel_rfl⟩
instance : TPlain Try.prog 45 := ⟨fun _ => by kernel_rfl⟩
instance : TZero Try.prog 45 (Value.nilFunc) := ⟨fun _ => by kernel_rfl⟩
instance : TSize Try.prog 46 1 := ⟨fun _ => by kernel_rfl⟩
instance : TBytes Try.prog 46 4 := ⟨by kernel_rfl⟩
instance : TPlain Try.prog 46 := ⟨fun _ => by kernel_rfl⟩
instance : TInt Try.prog 46 .i32 := ⟨by kernel_rfl⟩
instance : TZero Try.prog 46 (Value.int .i32 0) := ⟨fun _ => by kernel_rfl⟩
instance : TSize Try.prog 48 1 := ⟨fun _ => by kernel_rfl⟩
instance : TBytes Try.prog 48 8 := ⟨by kernel_rfl⟩
instance : TPlain Try.prog 48 := ⟨fun _ => by kernel_rfl⟩
instance : TZero Try.prog 48 (Value.nilFunc) := ⟨fun _ => by kernel_rfl⟩
instance : TSize Try.prog 49 1 := ⟨fun _ => by kernel_rfl⟩
instance : TBytes Try.prog 49 8 := ⟨by kernel_rfl⟩
instance : TPlain Try.prog 49 := ⟨fun _ => by kernel_rfl⟩
instance : TZero Try.prog 49 (Value.nilFunc) := ⟨fun _ => by kernel_rfl⟩
instance : TSize Try.prog 50 1 := ⟨fun _ => by kernel_rfl⟩
instance : TBytes Try.prog 50 8 := ⟨by kernel_rfl⟩
instance : TPlain Try.prog 50 := ⟨fun _ => by kernel_rfl⟩
instance : TZero Try.prog 50 (Value.nilFunc) := ⟨fun _ => by kernel_rfl⟩
instance : TSize Try.prog 51 1 := ⟨fun _ => by kernel_rfl⟩
instance : TBytes Try.prog 51 8 := ⟨by kernel_rfl⟩
instance : TPlain Try.prog 51 := ⟨fun _ => by kernel_rfl⟩
instance : TZero Try.prog 51 (Value.nilFunc) := ⟨fun _ => by kernel_rfl⟩
instance : TSize Try.prog 52 1 := ⟨fun _ => by kernel_rfl⟩
instance : TBytes Try.prog 52 8 := ⟨by kernel_rfl⟩
instance : TPlain Try.prog 52 := ⟨fun _ => by kernel_rfl⟩
instance : TMap Try.prog 52 2 66 := ⟨by kernel_rfl⟩
instance : TZero Try.prog 52 (Value.map none) := ⟨fun _ => by kernel_rfl⟩
instance : TSize Try.prog 53 1 := ⟨fun _ => by kernel_rfl⟩
instance : TBytes Try.prog 53 24 := ⟨by kernel_rfl⟩
instance : TPlain Try.prog 53 := ⟨fun _ => by kernel_rfl⟩
instance : TSlice Try.prog 53 91 := ⟨by kernel_rfl⟩
instance : TZero Try.prog 53 (Value.slice none 0 0) := ⟨fun _ => by kernel_rfl⟩
instance : TElem Try.prog 53 91 (Value.int .i8 0) 1 1 := ⟨by kernel_rfl, by kernel_rfl, by kernel_rfl, by decide, by decide⟩
instance : TSize Try.prog 54 6 := ⟨fun _ => by kernel_rfl⟩
instance : TBytes Try.prog 54 80 := ⟨by kernel_rfl⟩
instance : TAgg Try.prog 54 := ⟨fun _ => by kernel_rfl⟩
instance : TZero Try.prog 54 (Value.agg #[Value.map none, Value.int .i64 0, Value.int .i64 0, Value.bool false, Value.slice none 0 0, Value.slice none 0 0]) := ⟨fun _ => by kernel_rfl⟩
instance : TField Try.prog 54 0 0 := ⟨fun _ _ _ => by kernel_rfl⟩
instance : TFld Try.prog 54 0 0 := ⟨fun _ _ => by kernel_rfl⟩
instance : TField Try.prog 54 1 1 := ⟨fun _ _ _ => by kernel_rfl⟩
instance : TFld Try.prog 54 1 1 := ⟨fun _ _ => by kernel_rfl⟩
instance : TField Try.prog 54 2 2 := ⟨fun _ _ _ => by kernel_rfl⟩
instance : TFld Try.prog 54 2 2 := ⟨fun _ _ => by kernel_rfl⟩
instance : TField Try.prog 54 3 3 := ⟨fun _ _ _ => by kernel_rfl⟩
instance : TFld Try.prog 54 3 3 := ⟨fun _ _ => by kernel_rfl⟩
instance : TField Try.prog 54 4 4 := ⟨fun _ _ _ => by kernel_rfl⟩
instance : TFld Try.prog 54 4 4 := ⟨fun _ _ => by kernel_rfl⟩
instance : TField Try.prog 54 5 5 := ⟨fun _ _ _ => by kernel_rfl⟩
instance : TFld Try.prog 54 5 5 := ⟨fun _ _ => by kernel_rfl⟩
instance : TStr Try.prog 54 [Value.map none, Value.int .i64 0, Value.int .i64 0, Value.bool false, Value.slice none 0 0, Value.slice none 0 0] [(0, 1), (1, 1), (2, 1), (3, 1), (4, 1), (5, 1)] := ⟨fun _ => by kernel_rfl, fun _ => by kernel_rfl⟩
instance : TSize Try.prog 55 6 := ⟨fun _ => by kernel_rfl⟩
instance : TBytes Try.prog 55 80 := ⟨by kernel_rfl⟩
instance : TAgg Try.prog 55 := ⟨fun _ => by kernel_rfl⟩
instance : TZero Try.prog 55 (Value.agg #[Value.map none, Value.int .i64 0, Value.int .i64 0, Value.bool false, Value.slice none 0 0, Value.slice none 0 0]) := ⟨fun _ => by kernel_rfl⟩
instance : TField Try.prog 55 0 0 := ⟨fun _ _ _ => by kernel_rfl⟩
instance : TFld Try.prog 55 0 0 := ⟨fun _ _ => by kernel_rfl⟩
instance : TField Try.prog 55 1 1 := ⟨fun _ _ _ => by kernel_rfl⟩
instance : TFld Try.prog 55 1 1 := ⟨fun _ _ => by kernel_rfl⟩
instance : TField Try.prog 55 2 2 := ⟨fun _ _ _ => by kernel_rfl⟩
instance : TFld Try.prog 55 2 2 := ⟨fun _ _ => by kernel_rfl⟩
instance : TField Try.prog 55 3 3 := ⟨fun _ _ _ => by kernel_rfl⟩
instance : TFld Try.prog 55 3 3 := ⟨fun _ _ => by kernel_rfl⟩
instance : TField Try.prog 55 4 4 := ⟨fun _ _ _ => by kernel_rfl⟩
instance : TFld Try.prog 55 4 4 := ⟨fun _ _ => by kernel_rfl⟩
instance : TField Try.prog 55 5 5 := ⟨fun _ _ _ => by kernel_rfl⟩
instance : TFld Try.prog 55 5 5 := ⟨fun _ _ => by kernel_rfl⟩
instance : TStr Try.prog 55 [Value.map none, Value.int .i64 0, Value.int .i64 0, Value.bool false, Value.slice none 0 0, Value.slice none 0 0] [(0, 1), (1, 1), (2, 1), (3, 1), (4, 1), (5, 1)] := ⟨fun _ => by kernel_rfl, fun _ => by kernel_rfl⟩
instance : TSize Try.prog 56 1 := ⟨fun _ => by kernel_rfl⟩
instance : TBytes Try.prog 56 8 := ⟨by kernel_rfl⟩
instance : TPlain Try.prog 56 := ⟨fun _ => by kernel_rfl⟩
instance : TZero Try.prog 56 (Value.nilFunc) := ⟨fun _ => by kernel_rfl⟩
instance : TSize Try.prog 57 1 := ⟨fun _ => by kernel_rfl⟩
instance : TBytes Try.prog 57 8 := ⟨by kernel_rfl⟩
instance : TPlain Try.prog 57 := ⟨fun _ => by kernel_rfl⟩
instance : TZero Try.prog 57 (Value.nilFunc) := ⟨fun _ => by kernel_rfl⟩
instance : TSize Try.prog 58 1 := ⟨fun _ => by kernel_rfl⟩
instance : TBytes Try.prog 58 8 := ⟨by kernel_rfl⟩
instance : TPlain Try.prog 58 := ⟨fun _ => by kernel_rfl⟩
instance : TZero Try.prog 58 (Value.nilFunc) := ⟨fun _ => by kernel_rfl⟩
instance : TSize Try.prog 59 1 := ⟨fun _ => by kernel_rfl⟩
instance : TBytes Try.prog 59 8 := ⟨by kernel_rfl⟩
instance : TPlain Try.prog 59 := ⟨fun _ => by kernel_rfl⟩
instance : TZero Try.prog 59 (Value.nilFunc) := ⟨fun _ => by kernel_rfl⟩
instance : TSize Try.prog 61 1 := ⟨fun _ => by kernel_rfl⟩
instance : TBytes Try.prog 61 8 := ⟨by kernel_rfl⟩
instance : TPlain Try.prog 61 := ⟨fun _ => by kernel_rfl⟩
instance : TZero Try.prog 61 (Value.nilFunc) := ⟨fun _ => by kernel_rfl⟩
instance : TSize Try.prog 62 1 := ⟨fun _ => by kernel_rfl⟩
instance : TBytes Try.prog 62 8 := ⟨by kernel_rfl⟩
instance : TPlain Try.prog 62 := ⟨fun _ => by kernel_rfl⟩
instance : TZero Try.prog 62 (Value.nilFunc) := ⟨fun _ => by kernel_rfl⟩
instance : TSize Try.prog 63 1 := ⟨fun _ => by kernel_rfl⟩
instance : TBytes Try.prog 63 8 := ⟨by kernel_rfl⟩
instance : TPlain Try.prog 63 := ⟨fun _ => by kernel_rfl⟩
instance : TZero Try.prog 63 (Value.nilFunc) := ⟨fun _ => by kernel_rfl⟩
instance : TSize Try.prog 64 1 := ⟨fun _ => by kernel_rfl⟩
instance : TBytes Try.prog 64 8 := ⟨by kernel_rfl⟩
instance : TPlain Try.prog 64 := ⟨fun _ => by kernel_rfl⟩
instance : TZero Try.prog 64 (Value.nilFunc) := ⟨fun _ => by kernel_rfl⟩
instance : TSize Try.prog 65 1 := ⟨fun _ => by kernel_rfl⟩
instance : TBytes Try.prog 65 8 := ⟨by kernel_rfl⟩
instance : TPlain Try.prog 65 := ⟨fun _ => by kernel_rfl⟩
instance : TZero Try.prog 65 (Value.nilFunc) := ⟨fun _ => by kernel_rfl⟩
instance : TSize Try.prog 66 1 := ⟨fun _ => by kernel_rfl⟩
instance : TBytes Try.prog 66 8 := ⟨by kernel_rfl⟩
instance : TPlain Try.prog 66 := ⟨fun _ => by kernel_rfl⟩
instance : TPtr Try.prog 66 69 := ⟨by kernel_rfl⟩
instance : TZero Try.prog 66 (Value.pointer none) := ⟨fun _ => by kernel_rfl⟩
instance : TSize Try.prog 67 1 := ⟨fun _ => by kernel_rfl⟩
instance : TBytes Try.prog 67 8 := ⟨by kernel_rfl⟩
instance : TPlain Try.prog 67 := ⟨fun _ => by kernel_rfl⟩
instance : TZero Try.prog 67 (Value.nilFunc) := ⟨fun _ => by kernel_rfl⟩
instance : TSize Try.prog 68 3 := ⟨fun _ => by kernel_rfl⟩
instance : TBytes Try.prog 68 56 := ⟨by kernel_rfl⟩
instance : TAgg Try.prog 68 := ⟨fun _ => by kernel_rfl⟩
instance : TZero Try.prog 68 (Value.agg #[Value.slice none 0 0, Value.slice none 0 0, Value.bool false]) := ⟨fun _ => by kernel_rfl⟩
instance : TField Try.prog 68 0 0 := ⟨fun _ _ _ => by kernel_rfl⟩
instance : TFld Try.prog 68 0 0 := ⟨fun _ _ => by kernel_rfl⟩
instance : TField Try.prog 68 1 1 := ⟨fun _ _ _ => by kernel_rfl⟩
instance : TFld Try.prog 68 1 1 := ⟨fun _ _ => by kernel_rfl⟩
instance : TField Try.prog 68 2 2 := ⟨fun _ _ _ => by kernel_rfl⟩
instance : TFld Try.prog 68 2 2 := ⟨fun _ _ => by kernel_rfl⟩
instance : TStr Try.prog 68 [Value.slice none 0 0, Value.slice none 0 0, Value.bool false] [(0, 1), (1, 1), (2, 1)] := ⟨fun _ => by kernel_rfl, fun _ => by kernel_rfl⟩
instance : TSize Try.prog 69 3 := ⟨fun _ => by kernel_rfl⟩
instance : TBytes Try.prog 69 56 := ⟨by kernel_rfl⟩
instance : TAgg Try.prog 69 := ⟨fun _ => by kernel_rfl⟩
instance : TZero Try.prog 69 (Value.agg #[Value.slice none 0 0, Value.slice none 0 0, Value.bool false]) := ⟨fun _ => by kernel_rfl⟩
instance : TField Try.prog 69 0 0 := ⟨fun _ _ _ => by kernel_rfl⟩
instance : TFld Try.prog 69 0 0 := ⟨fun _ _ => by kernel_rfl⟩
instance : TField Try.prog 69 1 1 := ⟨fun _ _ _ => by kernel_rfl⟩
instance : TFld Try.prog 69 1 1 := ⟨fun _ _ => by kernel_rfl⟩
instance : TField Try.prog 69 2 2 := ⟨fun _ _ _ => by kernel_rfl⟩
instance : TFld Try.prog 69 2 2 := ⟨fun _ _ => by kernel_rfl⟩
instance : TStr Try.prog 69 [Value.slice none 0 0, Value.slice none 0 0, Value.bool false] [(0, 1), (1, 1), (2, 1)] := ⟨fun _ => by kernel_rfl, fun _ => by kernel_rfl⟩
instance : TSize Try.prog 70 1 := ⟨fun _ => by kernel_rfl⟩
instance : TBytes Try.prog 70 8 := ⟨by kernel_rfl⟩
instance : TPlain Try.prog 70 := ⟨fun _ => by kernel_rfl⟩
instance : TZero Try.prog 70 (Value.nilFunc) := ⟨fun _ => by kernel_rfl⟩
instance : TSize Try.prog 71 1 := ⟨fun _ => by kernel_rfl⟩
instance : TBytes Try.prog 71 8 := ⟨by kernel_rfl⟩
instance : TPlain Try.prog 71 := ⟨fun _ => by kernel_rfl⟩
instance : TZero Try.prog 71 (Value.nilFunc) := ⟨fun _ => by kernel_rfl⟩
instance : TSize Try.prog 72 1 := ⟨fun _ => by kernel_rfl⟩
instance : TBytes Try.prog 72 8 := ⟨by kernel_rfl⟩
instance : TPlain Try.prog 72 := ⟨fun _ => by kernel_rfl⟩
instance : TZero Try.prog 72 (Value.nilFunc) := ⟨fun _ => by kernel_rfl⟩
instance : TSize Try.prog 73 1 := ⟨fun _ => by kernel_rfl⟩
instance : TBytes Try.prog 73 8 := ⟨by kernel_rfl⟩
instance : TPlain Try.prog 73 := ⟨fun _ => by kernel_rfl⟩
instance : TZero Try.prog 73 (Value.nilFunc) := ⟨fun _ => by kernel_rfl⟩
instance : TSize Try.prog 74 1 := ⟨fun _ => by kernel_rfl⟩
instance : TBytes Try.prog 74 8 := ⟨by kernel_rfl⟩
instance : TPlain Try.prog 74 := ⟨fun _ => by kernel_rfl⟩
instance : TZero Try.prog 74 (Value.nilFunc) := ⟨fun _ => by kernel_rfl⟩
instance : TSize Try.prog 75 1 := ⟨fun _ => by kernel_rfl⟩
instance : TBytes Try.prog 75 8 := ⟨by kernel_rfl⟩
instance : TPlain Try.prog 75 := ⟨fun _ => by kernel_rfl⟩
instance : TMap Try.prog 75 2 4 := ⟨by kernel_rfl⟩
instance : TZero Try.prog 75 (Value.map none) := ⟨fun _ => by kernel_rfl⟩
instance : TSize Try.prog 76 1 := ⟨fun _ => by kernel_rfl⟩
instance : TBytes Try.prog 76 8 := ⟨by kernel_rfl⟩
instance : TPlain Try.prog 76 := ⟨fun _ => by kernel_rfl⟩
instance : TZero Try.prog 76 (Value.nilFunc) := ⟨fun _ => by kernel_rfl⟩
instance : TSize Try.prog 77 1 := ⟨fun _ => by kernel_rfl⟩
instance : TBytes Try.prog 77 8 := ⟨by kernel_rfl⟩
instance : TPlain Try.prog 77 := ⟨fun _ => by kernel_rfl⟩
instance : TZero Try.prog 77 (Value.nilFunc) := ⟨fun _ => by kernel_rfl⟩
instance : TSize Try.prog 79 1 := ⟨fun _ => by kernel_rfl⟩
instance : TBytes Try.prog 79 8 := ⟨by kernel_rfl⟩
instance : TPlain Try.prog 79 := ⟨fun _ => by kernel_rfl⟩
instance : TZero Try.prog 79 (Value.nilFunc) := ⟨fun _ => by kernel_rfl⟩
instance : TSize Try.prog 80 1 := ⟨fun _ => by kernel_rfl⟩
instance : TBytes Try.prog 80 8 := ⟨by kernel_rfl⟩
instance : TPlain Try.prog 80 := ⟨fun _ => by kernel_rfl⟩
instance : TInt Try.prog 80 .i64 := ⟨by kernel_rfl⟩
instance : TZero Try.prog 80 (Value.int .i64 0) := ⟨fun _ => by kernel_rfl⟩
instance : TSize Try.prog 81 1 := ⟨fun _ => by kernel_rfl⟩
instance : TBytes Try.prog 81 8 := ⟨by kernel_rfl⟩
instance : TPlain Try.prog 81 := ⟨fun _ => by kernel_rfl⟩
instance : TZero Try.prog 81 (Value.nilFunc) := ⟨fun _ => by kernel_rfl⟩
instance : TSize Try.prog 82 1 := ⟨fun _ => by kernel_rfl⟩
instance : TBytes Try.prog 82 8 := ⟨by kernel_rfl⟩
instance : TPlain Try.prog 82 := ⟨fun _ => by kernel_rfl⟩
instance : TZero Try.prog 82 (Value.nilFunc) := ⟨fun _ => by kernel_rfl⟩
instance : TSize Try.prog 83 1 := ⟨fun _ => by kernel_rfl⟩
instance : TBytes Try.prog 83 4 := ⟨by kernel_rfl⟩
instance : TPlain Try.prog 83 := ⟨fun _ => by kernel_rfl⟩
instance : TInt Try.prog 83 .i32 := ⟨by kernel_rfl⟩
instance : TZero Try.prog 83 (Value.int .i32 0) := ⟨fun _ => by kernel_rfl⟩
instance : TSize Try.prog 84 1 := ⟨fun _ => by kernel_rfl⟩
instance : TBytes Try.prog 84 8 := ⟨by kernel_rfl⟩
instance : TPlain Try.prog 84 := ⟨fun _ => by kernel_rfl⟩
instance : TZero Try.prog 84 (Value.nilFunc) := ⟨fun _ => by kernel_rfl⟩
instance : TSize Try.prog 85 1 := ⟨fun _ => by kernel_rfl⟩
instance : TBytes Try.prog 85 8 := ⟨by kernel_rfl⟩
instance : TPlain Try.prog 85 := ⟨fun _ => by kernel_rfl⟩
instance : TZero Try.prog 85 (Value.nilFunc) := ⟨fun _ => by kernel_rfl⟩
instance : TSize Try.prog 86 1 := ⟨fun _ => by kernel_rfl⟩
instance : TBytes Try.prog 86 8 := ⟨by kernel_rfl⟩
instance : TPlain Try.prog 86 := ⟨fun _ => by kernel_rfl⟩
instance : TZero Try.prog 86 (Value.nilFunc) := ⟨fun _ => by kernel_rfl⟩
instance : TSize Try.prog 87 1 := ⟨fun _ => by kernel_rfl⟩
instance : TBytes Try.prog 87 8 := ⟨by kernel_rfl⟩
instance : TPlain Try.prog 87 := ⟨fun _ => by kernel_rfl⟩
instance : TZero Try.prog 87 (Value.nilFunc) := ⟨fun _ => by kernel_rfl⟩
instance : TSize Try.prog 88 1 := ⟨fun _ => by kernel_rfl⟩
instance : TBytes Try.prog 88 8 := ⟨by kernel_rfl⟩
instance : TPlain Try.prog 88 := ⟨fun _ => by kernel_rfl⟩
instance : TZero Try.prog 88 (Value.nilFunc) := ⟨fun _ => by kernel_rfl⟩
instance : TSize Try.prog 89 1 := ⟨fun _ => by kernel_rfl⟩
instance : TBytes Try.prog 89 8 := ⟨by kernel_rfl⟩
instance : TPlain Try.prog 89 := ⟨fun _ => by kernel_rfl⟩
instance : TZero Try.prog 89 (Value.nilFunc) := ⟨fun _ => by kernel_rfl⟩
instance : TSize Try.prog 90 1 := ⟨fun _ => by kernel_rfl⟩
instance : TBytes Try.prog 90 1 := ⟨by kernel_rfl⟩
instance : TPlain Try.prog 90 := ⟨fun _ => by kernel_rfl⟩
instance : TInt Try.prog 90 .i8 := ⟨by kernel_rfl⟩
instance : TZero Try.prog 90 (Value.int .i8 0) := ⟨fun _ => by kernel_rfl⟩
instance : TSize Try.prog 91 1 := ⟨fun _ => by kernel_rfl⟩
instance : TBytes Try.prog 91 1 := ⟨by kernel_rfl⟩
instance : TPlain Try.prog 91 := ⟨fun _ => by kernel_rfl⟩
instance : TInt Try.prog 91 .i8 := ⟨by kernel_rfl⟩
instance : TZero Try.prog 91 (Value.int .i8 0) := ⟨fun _ => by kernel_rfl⟩
instance : TSize Try.prog 92 1 := ⟨fun _ => by kernel_rfl⟩
instance : TBytes Try.prog 92 8 := ⟨by kernel_rfl⟩
instance : TPlain Try.prog 92 := ⟨fun _ => by kernel_rfl⟩
instance : TZero Try.prog 92 (Value.nilFunc) := ⟨fun _ => by kernel_rfl⟩
instance : TSize Try.prog 94 1 := ⟨fun _ => by kernel_rfl⟩
instance : TBytes Try.prog 94 8 := ⟨by kernel_rfl⟩
instance : TPlain Try.prog 94 := ⟨fun _ => by kernel_rfl⟩
instance : TZero Try.prog 94 (Value.nilFunc) := ⟨fun _ => by kernel_rfl⟩
instance : TSize Try.prog 95 1 := ⟨fun _ => by kernel_rfl⟩
instance : TBytes Try.prog 95 8 := ⟨by kernel_rfl⟩
instance : TPlain Try.prog 95 := ⟨fun _ => by kernel_rfl⟩
instance : TZero Try.prog 95 (Value.nilFunc) := ⟨fun _ => by kernel_rfl⟩
instance : TSize Try.prog 96 1 := ⟨fun _ => by kernel_rfl⟩
instance : TBytes Try.prog 96 8 := ⟨by kernel_rfl⟩
instance : TPlain Try.prog 96 := ⟨fun _ => by kernel_rfl⟩
instance : TZero Try.prog 96 (Value.nilFunc) := ⟨fun _ => by kernel_rfl⟩
instance : TSize Try.prog 97 1 := ⟨fun _ => by kernel_rfl⟩
instance : TBytes Try.prog 97 8 := ⟨by kernel_rfl⟩
instance : TPlain Try.prog 97 := ⟨fun _ => by kernel_rfl⟩
instance : TZero Try.prog 97 (Value.nilFunc) := ⟨fun _ => by kernel_rfl⟩
instance : TSize Try.prog 98 1 := ⟨fun _ => by kernel_rfl⟩
instance : TBytes Try.prog 98 8 := ⟨by kernel_rfl⟩
instance : TPlain Try.prog 98 := ⟨fun _ => by kernel_rfl⟩
instance : TZero Try.prog 98 (Value.nilFunc) := ⟨fun _ => by kernel_rfl⟩
instance : TSize Try.prog 99 1 := ⟨fun _ => by kernel_rfl⟩
instance : TBytes Try.prog 99 8 := ⟨by kernel_rfl⟩
instance : TPlain Try.prog 99 := ⟨fun _ => by kernel_rfl⟩
instance : TZero Try.prog 99 (Value.nilFunc) := ⟨fun _ => by kernel_rfl⟩
instance : TSize Try.prog 100 1 := ⟨fun _ => by kernel_rfl⟩
instance : TBytes Try.prog 100 8 := ⟨by kernel_rfl⟩
instance : TPlain Try.prog 100 := ⟨fun _ => by kernel_rfl⟩
instance : TInt Try.prog 100 .u64 := ⟨by kernel_rfl⟩
instance : TZero Try.prog 100 (Value.int .u64 0) := ⟨fun _ => by kernel_rfl⟩
instance : TSize Try.prog 101 1 := ⟨fun _ => by kernel_rfl⟩
instance : TBytes Try.prog 101 8 := ⟨by kernel_rfl⟩
instance : TPlain Try.prog 101 := ⟨fun _ => by kernel_rfl⟩
instance : TZero Try.prog 101 (Value.nilFunc) := ⟨fun _ => by kernel_rfl⟩
instance : TSize Try.prog 102 1 := ⟨fun _ => by kernel_rfl⟩
instance : TBytes Try.prog 102 8 := ⟨by kernel_rfl⟩
instance : TPlain Try.prog 102 := ⟨fun _ => by kernel_rfl⟩
instance : TZero Try.prog 102 (Value.nilFunc) := ⟨fun _ => by kernel_rfl⟩
instance : TSize Try.prog 103 1 := ⟨fun _ => by kernel_rfl⟩
instance : TBytes Try.prog 103 8 := ⟨by kernel_rfl⟩
instance : TPlain Try.prog 103 := ⟨fun _ => by kernel_rfl⟩
instance : TZero Try.prog 103 (Value.nilFunc) := ⟨fun _ => by kernel_rfl⟩
instance : TSize Try.prog 104 1 := ⟨fun _ => by kernel_rfl⟩
instance : TBytes Try.prog 104 8 := ⟨by kernel_rfl⟩
instance : TPlain Try.prog 104 := ⟨fun _ => by kernel_rfl⟩
instance : TZero Try.prog 104 (Value.nilFunc) := ⟨fun _ => by kernel_rfl⟩
instance : TSize Try.prog 105 1 := ⟨fun _ => by kernel_rfl⟩
instance : TBytes Try.prog 105 8 := ⟨by kernel_rfl⟩
instance : TPlain Try.prog 105 := ⟨fun _ => by kernel_rfl⟩
instance : TZero Try.prog 105 (Value.nilFunc) := ⟨fun _ => by kernel_rfl⟩
instance : TSize Try.prog 106 1 := ⟨fun _ => by kernel_rfl⟩
instance : TBytes Try.prog 106 8 := ⟨by kernel_rfl⟩
instance : TPlain Try.prog 106 := ⟨fun _ => by kernel_rfl⟩
instance : TZero Try.prog 106 (Value.nilFunc) := ⟨fun _ => by kernel_rfl⟩
instance : TSize Try.prog 107 1 := ⟨fun _ => by kernel_rfl⟩
instance : TBytes Try.prog 107 8 := ⟨by kernel_rfl⟩
instance : TPlain Try.prog 107 := ⟨fun _ => by kernel_rfl⟩
instance : TInt Try.prog 107 .i64 := ⟨by kernel_rfl⟩
instance : TZero Try.prog 107 (Value.int .i64 0) := ⟨fun _ => by kernel_rfl⟩
instance : TSize Try.prog 109 1 := ⟨fun _ => by kernel_rfl⟩
instance : TBytes Try.prog 109 8 := ⟨by kernel_rfl⟩
instance : TPlain Try.prog 109 := ⟨fun _ => by kernel_rfl⟩
instance : TZero Try.prog 109 (Value.nilFunc) := ⟨fun _ => by kernel_rfl⟩
instance : TSize Try.prog 110 1 := ⟨fun _ => by kernel_rfl⟩
instance : TBytes Try.prog 110 8 := ⟨by kernel_rfl⟩
instance : TPlain Try.prog 110 := ⟨fun _ => by kernel_rfl⟩
instance : TZero Try.prog 110 (Value.nilFunc) := ⟨fun _ => by kernel_rfl⟩
instance : TSize Try.prog 111 1 := ⟨fun _ => by kernel_rfl⟩
instance : TBytes Try.prog 111 8 := ⟨by kernel_rfl⟩
instance : TPlain Try.prog 111 := ⟨fun _ => by kernel_rfl⟩
instance : TZero Try.prog 111 (Value.nilFunc) := ⟨fun _ => by kernel_rfl⟩
instance : TSize Try.prog 113 1 := ⟨fun _ => by kernel_rfl⟩
instance : TBytes Try.prog 113 8 := ⟨by kernel_rfl⟩
instance : TPlain Try.prog 113 := ⟨fun _ => by kernel_rfl⟩
instance : TZero Try.prog 113 (Value.nilFunc) := ⟨fun _ => by kernel_rfl⟩
instance : TSize Try.prog 114 1 := ⟨fun _ => by kernel_rfl⟩
instance : TBytes Try.prog 114 8 := ⟨by kernel_rfl⟩
instance : TPlain Try.prog 114 := ⟨fun _ => by kernel_rfl⟩
instance : TZero Try.prog 114 (Value.nilFunc) := ⟨fun _ => by kernel_rfl⟩
instance : TSize Try.prog 115 1 := ⟨fun _ => by kernel_rfl⟩
instance : TBytes Try.prog 115 4 := ⟨by kernel_rfl⟩
instance : TPlain Try.prog 115 := ⟨fun _ => by kernel_rfl⟩
instance : TInt Try.prog 115 .u32 := ⟨by kernel_rfl⟩
instance : TZero Try.prog 115 (Value.int .u32 0) := ⟨fun _ => by kernel_rfl⟩
instance : TSize Try.prog 116 1 := ⟨fun _ => by kernel_rfl⟩
instance : TBytes Try.prog 116 8 := ⟨by kernel_rfl⟩
instance : TPlain Try.prog 116 := ⟨fun _ => by kernel_rfl⟩
instance : TZero Try.prog 116 (Value.nilFunc) := ⟨fun _ => by kernel_rfl⟩
instance : TSize Try.prog 117 1 := ⟨fun _ => by kernel_rfl⟩
instance : TBytes Try.prog 117 8 := ⟨by kernel_rfl⟩
instance : TPlain Try.prog 117 := ⟨fun _ => by kernel_rfl⟩
instance : TInt Try.prog 117 .u64 := ⟨by kernel_rfl⟩
instance : TZero Try.prog 117 (Value.int .u64 0) := ⟨fun _ => by kernel_rfl⟩
instance : TSize Try.prog 118 1 := ⟨fun _ => by kernel_rfl⟩
instance : TBytes Try.prog 118 24 := ⟨by kernel_rfl⟩
instance : TPlain Try.prog 118 := ⟨fun _ => by kernel_rfl⟩
instance : TSlice Try.prog 118 3 := ⟨by kernel_rfl⟩
instance : TZero Try.prog 118 (Value.slice none 0 0) := ⟨fun _ => by kernel_rfl⟩
instance : TElem Try.prog 118 3 (Value.int .i64 0) 1 8 := ⟨by kernel_rfl, by kernel_rfl, by kernel_rfl, by decide, by decide⟩
instance : TSize Try.prog 119 1 := ⟨fun _ => by kernel_rfl⟩
instance : TBytes Try.prog 119 8 := ⟨by kernel_rfl⟩
instance : TPlain Try.prog 119 := ⟨fun _ => by kernel_rfl⟩
instance : TZero Try.prog 119 (Value.nilFunc) := ⟨fun _ => by kernel_rfl⟩
instance : TSize Try.prog 120 1 := ⟨fun _ => by kernel_rfl⟩
instance : TBytes Try.prog 120 8 := ⟨by kernel_rfl⟩
instance : TPlain Try.prog 120 := ⟨fun _ => by kernel_rfl⟩
instance : TZero Try.prog 120 (Value.nilFunc) := ⟨fun _ => by kernel_rfl⟩
instance : TSize Try.prog 121 1 := ⟨fun _ => by kernel_rfl⟩
instance : TBytes Try.prog 121 8 := ⟨by kernel_rfl⟩
instance : TPlain Try.prog 121 := ⟨fun _ => by kernel_rfl⟩
instance : TZero Try.prog 121 (Value.nilFunc) := ⟨fun _ => by kernel_rfl⟩
instance : TSize Try.prog 122 1 := ⟨fun _ => by kernel_rfl⟩
instance : TBytes Try.prog 122 8 := ⟨by kernel_rfl⟩
instance : TPlain Try.prog 122 := ⟨fun _ => by kernel_rfl⟩
instance : TZero Try.prog 122 (Value.nilFunc) := ⟨fun _ => by kernel_rfl⟩
instance : TSize Try.prog 123 1 := ⟨fun _ => by kernel_rfl⟩
instance : TBytes Try.prog 123 8 := ⟨by kernel_rfl⟩
instance : TPlain Try.prog 123 := ⟨fun _ => by kernel_rfl⟩
instance : TZero Try.prog 123 (Value.nilFunc) := ⟨fun _ => by kernel_rfl⟩
instance : TSize Try.prog 124 1 := ⟨fun _ => by kernel_rfl⟩
instance : TBytes Try.prog 124 8 := ⟨by kernel_rfl⟩
instance : TPlain Try.prog 124 := ⟨fun _ => by kernel_rfl⟩
instance : TZero Try.prog 124 (Value.nilFunc) := ⟨fun _ => by kernel_rfl⟩
instance : TSize Try.prog 125 1 := ⟨fun _ => by kernel_rfl⟩
instance : TBytes Try.prog 125 8 := ⟨by kernel_rfl⟩
instance : TPlain Try.prog 125 := ⟨fun _ => by kernel_rfl⟩
instance : TZero Try.prog 125 (Value.nilFunc) := ⟨fun _ => by kernel_rfl⟩
instance : TSize Try.prog 126 1 := ⟨fun _ => by kernel_rfl⟩
instance : TBytes Try.prog 126 8 := ⟨by kernel_rfl⟩
instance : TPlain Try.prog 126 := ⟨fun _ => by kernel_rfl⟩
instance : TZero Try.prog 126 (Value.nilFunc) := ⟨fun _ => by kernel_rfl⟩
instance : TSize Try.prog 127 1 := ⟨fun _ => by kernel_rfl⟩
instance : TBytes Try.prog 127 8 := ⟨by kernel_rfl⟩
instance : TPlain Try.prog 127 := ⟨fun _ => by kernel_rfl⟩
instance : TInt Try.prog 127 .u64 := ⟨by kernel_rfl⟩
instance : TZero Try.prog 127 (Value.int .u64 0) := ⟨fun _ => by kernel_rfl⟩
instance : TSize Try.prog 128 1 := ⟨fun _ => by kernel_rfl⟩
instance : TBytes Try.prog 128 8 := ⟨by kernel_rfl⟩
instance : TPlain Try.prog 128 := ⟨fun _ => by kernel_rfl⟩
instance : TZero Try.prog 128 (Value.nilFunc) := ⟨fun _ => by kernel_rfl⟩
instance : TSize Try.prog 129 1 := ⟨fun _ => by kernel_rfl⟩
instance : TBytes Try.prog 129 8 := ⟨by kernel_rfl⟩
instance : TPlain Try.prog 129 := ⟨fun _ => by kernel_rfl⟩
instance : TZero Try.prog 129 (Value.nilFunc) := ⟨fun _ => by kernel_rfl⟩
instance : TSize Try.prog 130 1 := ⟨fun _ => by kernel_rfl⟩
instance : TBytes Try.prog 130 8 := ⟨by kernel_rfl⟩
instance : TPlain Try.prog 130 := ⟨fun _ => by kernel_rfl⟩
instance : TZero Try.prog 130 (Value.nilFunc) := ⟨fun _ => by kernel_rfl⟩
instance : TSize Try.prog 131 1 := ⟨fun _ => by kernel_rfl⟩
instance : TBytes Try.prog 131 8 := ⟨by kernel_rfl⟩
instance : TPlain Try.prog 131 := ⟨fun _ => by kernel_rfl⟩
instance : TPtr Try.prog 131 3 := ⟨by kernel_rfl⟩
instance : TZero Try.prog 131 (Value.pointer none) := ⟨fun _ => by kernel_rfl⟩
instance : TSize Try.prog 132 1 := ⟨fun _ => by kernel_rfl⟩
instance : TBytes Try.prog 132 8 := ⟨by kernel_rfl⟩
instance : TPlain Try.prog 132 := ⟨fun _ => by kernel_rfl⟩
instance : TZero Try.prog 132 (Value.nilFunc) := ⟨fun _ => by kernel_rfl⟩
instance : TSize Try.prog 133 1 := ⟨fun _ => by kernel_rfl⟩
instance : TBytes Try.prog 133 8 := ⟨by kernel_rfl⟩
instance : TPlain Try.prog 133 := ⟨fun _ => by kernel_rfl⟩
instance : TZero Try.prog 133 (Value.nilFunc) := ⟨fun _ => by kernel_rfl⟩
instance : TSize Try.prog 134 1 := ⟨fun _ => by kernel_rfl⟩
instance : TBytes Try.prog 134 8 := ⟨by kernel_rfl⟩
instance : TPlain Try.prog 134 := ⟨fun _ => by kernel_rfl⟩
instance : TZero Try.prog 134 (Value.nilFunc) := ⟨fun _ => by kernel_rfl⟩
instance : TSize Try.prog 135 1 := ⟨fun _ => by kernel_rfl⟩
instance : TBytes Try.prog 135 8 := ⟨by kernel_rfl⟩
instance : TPlain Try.prog 135 := ⟨fun _ => by kernel_rfl⟩
instance : TPtr Try.prog 135 127 := ⟨by kernel_rfl⟩
instance : TZero Try.prog 135 (Value.pointer none) := ⟨fun _ => by kernel_rfl⟩
instance : TSize Try.prog 137 1 := ⟨fun _ => by kernel_rfl⟩
instance : TBytes Try.prog 137 8 := ⟨by kernel_rfl⟩
instance : TPlain Try.prog 137 := ⟨fun _ => by kernel_rfl⟩
instance : TZero Try.prog 137 (Value.nilFunc) := ⟨fun _ => by kernel_rfl⟩
instance : TSize Try.prog 138 1 := ⟨fun _ => by kernel_rfl⟩
instance : TBytes Try.prog 138 8 := ⟨by kernel_rfl⟩
instance : TPlain Try.prog 138 := ⟨fun _ => by kernel_rfl⟩
instance : TZero Try.prog 138 (Value.nilFunc) := ⟨fun _ => by kernel_rfl⟩
instance : TSize Try.prog 139 1 := ⟨fun _ => by kernel_rfl⟩
instance : TBytes Try.prog 139 8 := ⟨by kernel_rfl⟩
instance : TPlain Try.prog 139 := ⟨fun _ => by kernel_rfl⟩
instance : TZero Try.prog 139 (Value.nilFunc) := ⟨fun _ => by kernel_rfl⟩
instance : TSize Try.prog 140 4 := ⟨fun _ => by kernel_rfl⟩
instance : TBytes Try.prog 140 40 := ⟨by kernel_rfl⟩
instance : TAgg Try.prog 140 := ⟨fun _ => by kernel_rfl⟩
instance : TField Try.prog 140 0 0 := ⟨fun _ _ _ => by kernel_rfl⟩
instance : TFld Try.prog 140 0 0 := ⟨fun _ _ => by kernel_rfl⟩
instance : TField Try.prog 140 1 1 := ⟨fun _ _ _ => by kernel_rfl⟩
instance : TFld Try.prog 140 1 1 := ⟨fun _ _ => by kernel_rfl⟩
instance : TField Try.prog 140 2 2 := ⟨fun _ _ _ => by kernel_rfl⟩
instance : TFld Try.prog 140 2 2 := ⟨fun _ _ => by kernel_rfl⟩
instance : TField Try.prog 140 3 3 := ⟨fun _ _ _ => by kernel_rfl⟩
instance : TFld Try.prog 140 3 3 := ⟨fun _ _ => by kernel_rfl⟩
instance : TSize Try.prog 141 4 := ⟨fun _ => by kernel_rfl⟩
instance : TBytes Try.prog 141 40 := ⟨by kernel_rfl⟩
instance : TAgg Try.prog 141 := ⟨fun _ => by kernel_rfl⟩
instance : TField Try.prog 141 0 0 := ⟨fun _ _ _ => by kernel_rfl⟩
instance : TFld Try.prog 141 0 0 := ⟨fun _ _ => by kernel_rfl⟩
instance : TField Try.prog 141 1 1 := ⟨fun _ _ _ => by kernel_rfl⟩
instance : TFld Try.prog 141 1 1 := ⟨fun _ _ => by kernel_rfl⟩
instance : TField Try.prog 141 2 2 := ⟨fun _ _ _ => by kernel_rfl⟩
instance : TFld Try.prog 141 2 2 := ⟨fun _ _ => by kernel_rfl⟩
instance : TField Try.prog 141 3 3 := ⟨fun _ _ _ => by kernel_rfl⟩
instance : TFld Try.prog 141 3 3 := ⟨fun _ _ => by kernel_rfl⟩
instance : TSize Try.prog 142 0 := ⟨fun _ => by kernel_rfl⟩
instance : TBytes Try.prog 142 0 := ⟨by kernel_rfl⟩
instance : TAgg Try.prog 142 := ⟨fun _ => by kernel_rfl⟩
instance : TZero Try.prog 142 (Value.agg #[]) := ⟨fun _ => by kernel_rfl⟩
instance : TSize Try.prog 143 0 := ⟨fun _ => by kernel_rfl⟩
instance : TBytes Try.prog 143 0 := ⟨by kernel_rfl⟩
instance : TAgg Try.prog 143 := ⟨fun _ => by kernel_rfl⟩
instance : TZero Try.prog 143 (Value.agg #[]) := ⟨fun _ => by kernel_rfl⟩
instance : TSize Try.prog 144 0 := ⟨fun _ => by kernel_rfl⟩
instance : TBytes Try.prog 144 0 := ⟨by kernel_rfl⟩
instance : TAgg Try.prog 144 := ⟨fun _ => by kernel_rfl⟩
instance : TZero Try.prog 144 (Value.agg #[]) := ⟨fun _ => by kernel_rfl⟩
instance : TSize Try.prog 145 1 := ⟨fun _ => by kernel_rfl⟩
instance : TBytes Try.prog 145 1 := ⟨by kernel_rfl⟩
instance : TPlain Try.prog 145 := ⟨fun _ => by kernel_rfl⟩
instance : TInt Try.prog 145 .u8 := ⟨by kernel_rfl⟩
instance : TZero Try.prog 145 (Value.int .u8 0) := ⟨fun _ => by kernel_rfl⟩
instance : TSize Try.prog 146 1 := ⟨fun _ => by kernel_rfl⟩
instance : TBytes Try.prog 146 1 := ⟨by kernel_rfl⟩
instance : TPlain Try.prog 146 := ⟨fun _ => by kernel_rfl⟩
instance : TInt Try.prog 146 .u8 := ⟨by kernel_rfl⟩
instance : TZero Try.prog 146 (Value.int .u8 0) := ⟨fun _ => by kernel_rfl⟩
instance : TSize Try.prog 147 1 := ⟨fun _ => by kernel_rfl⟩
instance : TBytes Try.prog 147 8 := ⟨by kernel_rfl⟩
instance : TPlain Try.prog 147 := ⟨fun _ => by kernel_rfl⟩
instance : TZero Try.prog 147 (Value.nilFunc) := ⟨fun _ => by kernel_rfl⟩
instance : TSize Try.prog 148 1 := ⟨fun _ => by kernel_rfl⟩
instance : TBytes Try.prog 148 8 := ⟨by kernel_rfl⟩
instance : TPlain Try.prog 148 := ⟨fun _ => by kernel_rfl⟩
instance : TPtr Try.prog 148 5 := ⟨by kernel_rfl⟩
instance : TZero Try.prog 148 (Value.pointer none) := ⟨fun _ => by kernel_rfl⟩
instance : TSize Try.prog 149 1 := ⟨fun _ => by kernel_rfl⟩
instance : TBytes Try.prog 149 4 := ⟨by kernel_rfl⟩
instance : TPlain Try.prog 149 := ⟨fun _ => by kernel_rfl⟩
instance : TInt Try.prog 149 .i32 := ⟨by kernel_rfl⟩
instance : TZero Try.prog 149 (Value.int .i32 0) := ⟨fun _ => by kernel_rfl⟩
instance : TSize Try.prog 150 1 := ⟨fun _ => by kernel_rfl⟩
instance : TBytes Try.prog 150 4 := ⟨by kernel_rfl⟩
instance : TPlain Try.prog 150 := ⟨fun _ => by kernel_rfl⟩
instance : TInt Try.prog 150 .i32 := ⟨by kernel_rfl⟩
instance : TZero Try.prog 150 (Value.int .i32 0) := ⟨fun _ => by kernel_rfl⟩
instance : TSize Try.prog 151 11 := ⟨fun _ => by kernel_rfl⟩
instance : TBytes Try.prog 151 48 := ⟨by kernel_rfl⟩
instance : TAgg Try.prog 151 := ⟨fun _ => by kernel_rfl⟩
instance : TZero Try.prog 151 (Value.agg #[Value.int .u64 0, Value.int .u64 0, Value.int .u32 0, Value.int .u8 0, Value.int .u8 0, Value.int .u8 0, Value.int .u8 0, Value.nilFunc, Value.pointer none, Value.int .i32 0, Value.int .i32 0]) := ⟨fun _ => by kernel_rfl⟩
instance : TField Try.prog 151 0 0 := ⟨fun _ _ _ => by kernel_rfl⟩
instance : TFld Try.prog 151 0 0 := ⟨fun _ _ => by kernel_rfl⟩
instance : TField Try.prog 151 1 1 := ⟨fun _ _ _ => by kernel_rfl⟩
instance : TFld Try.prog 151 1 1 := ⟨fun _ _ => by kernel_rfl⟩
instance : TField Try.prog 151 2 2 := ⟨fun _ _ _ => by kernel_rfl⟩
instance : TFld Try.prog 151 2 2 := ⟨fun _ _ => by kernel_rfl⟩
instance : TField Try.prog 151 3 3 := ⟨fun _ _ _ => by kernel_rfl⟩
instance : TFld Try.prog 151 3 3 := ⟨fun _ _ => by kernel_rfl⟩
instance : TField Try.prog 151 4 4 := ⟨fun _ _ _ => by kernel_rfl⟩
instance : TFld Try.prog 151 4 4 := ⟨fun _ _ => by kernel_rfl⟩
instance : TField Try.prog 151 5 5 := ⟨fun _ _ _ => by kernel_rfl⟩
instance : TFld Try.prog 151 5 5 := ⟨fun _ _ => by kernel_rfl⟩
instance : TField Try.prog 151 6 6 := ⟨fun _ _ _ => by kernel_rfl⟩
instance : TFld Try.prog 151 6 6 := ⟨fun _ _ => by kernel_rfl⟩
instance : TField Try.prog 151 7 7 := ⟨fun _ _ _ => by kernel_rfl⟩
instance : TFld Try.prog 151 7 7 := ⟨fun _ _ => by kernel_rfl⟩
instance : TField Try.prog 151 8 8 := ⟨fun _ _ _ => by kernel_rfl⟩
instance : TFld Try.prog 151 8 8 := ⟨fun _ _ => by kernel_rfl⟩
instance : TField Try.prog 151 9 9 := ⟨fun _ _ _ => by kernel_rfl⟩
instance : TFld Try.prog 151 9 9 := ⟨fun _ _ => by kernel_rfl⟩
instance : TField Try.prog 151 10 10 := ⟨fun _ _ _ => by kernel_rfl⟩
instance : TFld Try.prog 151 10 10 := ⟨fun _ _ => by kernel_rfl⟩
instance : TStr Try.prog 151 [Value.int .u64 0, Value.int .u64 0, Value.int .u32 0, Value.int .u8 0, Value.int .u8 0, Value.int .u8 0, Value.int .u8 0, Value.nilFunc, Value.pointer none, Value.int .i32 0, Value.int .i32 0] [(0, 1), (1, 1), (2, 1), (3, 1), (4, 1), (5, 1), (6, 1), (7, 1), (8, 1), (9, 1), (10, 1)] := ⟨fun _ => by kernel_rfl, fun _ => by kernel_rfl⟩
instance : TSize Try.prog 152 11 := ⟨fun _ => by kernel_rfl⟩
instance : TBytes Try.prog 152 48 := ⟨by kernel_rfl⟩
instance : TAgg Try.prog 152 := ⟨fun _ => by kernel_rfl⟩
instance : TZero Try.prog 152 (Value.agg #[Value.int .u64 0, Value.int .u64 0, Value.int .u32 0, Value.int .u8 0, Value.int .u8 0, Value.int .u8 0, Value.int .u8 0, Value.nilFunc, Value.pointer none, Value.int .i32 0, Value.int .i32 0]) := ⟨fun _ => by kernel_rfl⟩
instance : TField Try.prog 152 0 0 := ⟨fun _ _ _ => by kernel_rfl⟩
instance : TFld Try.prog 152 0 0 := ⟨fun _ _ => by kernel_rfl⟩
instance : TField Try.prog 152 1 1 := ⟨fun _ _ _ => by kernel_rfl⟩
instance : TFld Try.prog 152 1 1 := ⟨fun _ _ => by kernel_rfl⟩
instance : TField Try.prog 152 2 2 := ⟨fun _ _ _ => by kernel_rfl⟩
instance : TFld Try.prog 152 2 2 := ⟨fun _ _ => by kernel_rfl⟩
instance : TField Try.prog 152 3 3 := ⟨fun _ _ _ => by kernel_rfl⟩
instance : TFld Try.prog 152 3 3 := ⟨fun _ _ => by kernel_rfl⟩
instance : TField Try.prog 152 4 4 := ⟨fun _ _ _ => by kernel_rfl⟩
instance : TFld Try.prog 152 4 4 := ⟨fun _ _ => by kernel_rfl⟩
instance : TField Try.prog 152 5 5 := ⟨fun _ _ _ => by kernel_rfl⟩
instance : TFld Try.prog 152 5 5 := ⟨fun _ _ => by kernel_rfl⟩
instance : TField Try.prog 152 6 6 := ⟨fun _ _ _ => by kernel_rfl⟩
instance : TFld Try.prog 152 6 6 := ⟨fun _ _ => by kernel_rfl⟩
instance : TField Try.prog 152 7 7 := ⟨fun _ _ _ => by kernel_rfl⟩
instance : TFld Try.prog 152 7 7 := ⟨fun _ _ => by kernel_rfl⟩
instance : TField Try.prog 152 8 8 := ⟨fun _ _ _ => by kernel_rfl⟩
instance : TFld Try.prog 152 8 8 := ⟨fun _ _ => by kernel_rfl⟩
instance : TField Try.prog 152 9 9 := ⟨fun _ _ _ => by kernel_rfl⟩
instance : TFld Try.prog 152 9 9 := ⟨fun _ _ => by kernel_rfl⟩
instance : TField Try.prog 152 10 10 := ⟨fun _ _ _ => by kernel_rfl⟩
instance : TFld Try.prog 152 10 10 := ⟨fun _ _ => by kernel_rfl⟩
instance : TStr Try.prog 152 [Value.int .u64 0, Value.int .u64 0, Value.int .u32 0, Value.int .u8 0, Value.int .u8 0, Value.int .u8 0, Value.int .u8 0, Value.nilFunc, Value.pointer none, Value.int .i32 0, Value.int .i32 0] [(0, 1), (1, 1), (2, 1), (3, 1), (4, 1), (5, 1), (6, 1), (7, 1), (8, 1), (9, 1), (10, 1)] := ⟨fun _ => by kernel_rfl, fun _ => by kernel_rfl⟩
instance : TSize Try.prog 153 1 := ⟨fun _ => by kernel_rfl⟩
instance : TBytes Try.prog 153 8 := ⟨by kernel_rfl⟩
instance : TPlain Try.prog 153 := ⟨fun _ => by kernel_rfl⟩
instance : TZero Try.prog 153 (Value.pointer none) := ⟨fun _ => by kernel_rfl⟩
instance : TFunc Try.prog 3 := ⟨fun _ _ => by kernel_rfl⟩
instance : TFunc Try.prog 4 := ⟨fun _ _ => by kernel_rfl⟩
instance : TFunc Try.prog 5 := ⟨fun _ _ => by kernel_rfl⟩
instance : TFunc Try.prog 6 := ⟨fun _ _ => by kernel_rfl⟩
instance : TFunc Try.prog 7 := ⟨fun _ _ => by kernel_rfl⟩
instance : TFunc Try.prog 8 := ⟨fun _ _ => by kernel_rfl⟩
instance : TFunc Try.prog 9 := ⟨fun _ _ => by kernel_rfl⟩
instance : TFunc Try.prog 10 := ⟨fun _ _ => by kernel_rfl⟩
instance : TFunc Try.prog 11 := ⟨fun _ _ => by kernel_rfl⟩
instance : TFunc Try.prog 12 := ⟨fun _ _ => by kernel_rfl⟩
instance : TFunc Try.prog 13 := ⟨fun _ _ => by kernel_rfl⟩
instance : TFunc Try.prog 14 := ⟨fun _ _ => by kernel_rfl⟩
instance : TFunc Try.prog 15 := ⟨fun _ _ => by kernel_rfl⟩
instance : TFunc Try.prog 16 := ⟨fun _ _ => by kernel_rfl⟩
instance : TFunc Try.prog 17 := ⟨fun _ _ => by kernel_rfl⟩
instance : TFunc Try.prog 18 := ⟨fun _ _ => by kernel_rfl⟩
instance : TFunc Try.prog 19 := ⟨fun _ _ => by kernel_rfl⟩
instance : TFunc Try.prog 20 := ⟨fun _ _ => by kernel_rfl⟩
instance : TFunc Try.prog 21 := ⟨fun _ _ => by kernel_rfl⟩
instance : TFunc Try.prog 22 := ⟨fun _ _ => by kernel_rfl⟩
instance : TFunc Try.prog 23 := ⟨fun _ _ => by kernel_rfl⟩
instance : TFunc Try.prog 24 := ⟨fun _ _ => by kernel_rfl⟩
instance : TFunc Try.prog 25 := ⟨fun _ _ => by kernel_rfl⟩
instance : TFunc Try.prog 26 := ⟨fun _ _ => by kernel_rfl⟩
instance : TFunc Try.prog 27 := ⟨fun _ _ => by kernel_rfl⟩
instance : TFunc Try.prog 28 := ⟨fun _ _ => by kernel_rfl⟩
instance : TFunc Try.prog 29 := ⟨fun _ _ => by kernel_rfl⟩
instance : TFunc Try.prog 30 := ⟨fun _ _ => by kernel_rfl⟩
instance : TFunc Try.prog 31 := ⟨fun _ _ => by kernel_rfl⟩
instance : TFunc Try.prog 32 := ⟨fun _ _ => by kernel_rfl⟩
instance : TFunc Try.prog 33 := ⟨fun _ _ => by kernel_rfl⟩
instance : TFunc Try.prog 34 := ⟨fun _ _ => by kernel_rfl⟩
instance : TFunc Try.prog 35 := ⟨fun _ _ => by kernel_rfl⟩
instance : TFunc Try.prog 36 := ⟨fun _ _ => by kernel_rfl⟩
instance : TFunc Try.prog 37 := ⟨fun _ _ => by kernel_rfl⟩
instance : TFunc Try.prog 38 := ⟨fun _ _ => by kernel_rfl⟩
instance : TFunc Try.prog 39 := ⟨fun _ _ => by kernel_rfl⟩
instance : TFunc Try.prog 40 := ⟨fun _ _ => by kernel_rfl⟩
instance : TFunc Try.prog 41 := ⟨fun _ _ => by kernel_rfl⟩
instance : TFunc Try.prog 42 := ⟨fun _ _ => by kernel_rfl⟩
instance : TFunc Try.prog 43 := ⟨fun _ _ => by kernel_rfl⟩
instance : TFunc Try.prog 44 := ⟨fun _ _ => by kernel_rfl⟩
instance : TFunc Try.prog 45 := ⟨fun _ _ => by kernel_rfl⟩
instance : TFunc Try.prog 46 := ⟨fun _ _ => by kernel_rfl⟩
instance : TFunc Try.prog 47 := ⟨fun _ _ => by kernel_rfl⟩
instance : TFunc Try.prog 48 := ⟨fun _ _ => by kernel_rfl⟩
instance : TFunc Try.prog 49 := ⟨fun _ _ => by kernel_rfl⟩
instance : TFunc Try.prog 50 := ⟨fun _ _ => by kernel_rfl⟩
instance : TFunc Try.prog 51 := ⟨fun _ _ => by kernel_rfl⟩
instance : TFunc Try.prog 52 := ⟨fun _ _ => by kernel_rfl⟩
instance : TFunc Try.prog 53 := ⟨fun _ _ => by kernel_rfl⟩
instance : TFunc Try.prog 54 := ⟨fun _ _ => by kernel_rfl⟩
instance : TFunc Try.prog 55 := ⟨fun _ _ => by kernel_rfl⟩
instance : TFunc Try.prog 56 := ⟨fun _ _ => by kernel_rfl⟩
instance : TFunc Try.prog 57 := ⟨fun _ _ => by kernel_rfl⟩
instance : TFunc Try.prog 58 := ⟨fun _ _ => by kernel_rfl⟩
instance : TFunc Try.prog 59 := ⟨fun _ _ => by kernel_rfl⟩
instance : TFunc Try.prog 60 := ⟨fun _ _ => by kernel_rfl⟩
instance : TFunc Try.prog 61 := ⟨fun _ _ => by kernel_rfl⟩
instance : TFunc Try.prog 62 := ⟨fun _ _ => by kernel_rfl⟩
instance : TFunc Try.prog 63 := ⟨fun _ _ => by kernel_rfl⟩
instance : TFunc Try.prog 64 := ⟨fun _ _ => by kernel_rfl⟩
instance : TFunc Try.prog 65 := ⟨fun _ _ => by kernel_rfl⟩
instance : TFunc Try.prog 66 := ⟨fun _ _ => by kernel_rfl⟩
instance : TFunc Try.prog 67 := ⟨fun _ _ => by kernel_rfl⟩
instance : TFunc Try.prog 68 := ⟨fun _ _ => by kernel_rfl⟩
instance : TFunc Try.prog 69 := ⟨fun _ _ => by kernel_rfl⟩
instance : TFunc Try.prog 70 := ⟨fun _ _ => by kernel_rfl⟩
instance : TFunc Try.prog 71 := ⟨fun _ _ => by kernel_rfl⟩
instance : TFunc Try.prog 72 := ⟨fun _ _ => by kernel_rfl⟩
instance : TFunc Try.prog 73 := ⟨fun _ _ => by kernel_rfl⟩
instance : TFunc Try.prog 74 := ⟨fun _ _ => by kernel_rfl⟩
instance : TFunc Try.prog 75 := ⟨fun _ _ => by kernel_rfl⟩
instance : TFunc Try.prog 76 := ⟨fun _ _ => by kernel_rfl⟩
instance : TFunc Try.prog 77 := ⟨fun _ _ => by kernel_rfl⟩
instance : TFunc Try.prog 78 := ⟨fun _ _ => by kernel_rfl⟩
instance : TFunc Try.prog 79 := ⟨fun _ _ => by kernel_rfl⟩
instance : TFunc Try.prog 80 := ⟨fun _ _ => by kernel_rfl⟩
instance : TFunc Try.prog 81 := ⟨fun _ _ => by kernel_rfl⟩
instance : TFunc Try.prog 82 := ⟨fun _ _ => by kernel_rfl⟩
instance : TFunc Try.prog 83 := ⟨fun _ _ => by kernel_rfl⟩
instance : TFunc Try.prog 84 := ⟨fun _ _ => by kernel_rfl⟩
instance : TFunc Try.prog 85 := ⟨fun _ _ => by kernel_rfl⟩
instance : TFunc Try.prog 86 := ⟨fun _ _ => by kernel_rfl⟩
instance : TFunc Try.prog 87 := ⟨fun _ _ => by kernel_rfl⟩
instance : TFunc Try.prog 88 := ⟨fun _ _ => by kernel_rfl⟩
instance : TFunc Try.prog 89 := ⟨fun _ _ => by kernel_rfl⟩
instance : TFunc Try.prog 90 := ⟨fun _ _ => by kernel_rfl⟩
instance : TFunc Try.prog 91 := ⟨fun _ _ => by kernel_rfl⟩
instance : TFunc Try.prog 92 := ⟨fun _ _ => by kernel_rfl⟩
instance : TFunc Try.prog 93 := ⟨fun _ _ => by kernel_rfl⟩
instance : TFunc Try.prog 94 := ⟨fun _ _ => by kernel_rfl⟩
instance : TFunc Try.prog 95 := ⟨fun _ _ => by kernel_rfl⟩
instance : TFunc Try.prog 96 := ⟨fun _ _ => by kernel_rfl⟩
end Go.Proofs.Ytkpkehfoilchaaa
