/- Contracts of functions of the seat, walked. -/
import Derived.Test.YtlcpglkbllhokaaRows
import Derived.Test.YtlcpglkbllhokaaKFn
import Derived.KernelRfl
namespace Go.Proofs.Ytlcpglkbllhokaa
open Go.Kin
/-! the types, as the engine looks at them -/
def te : TE := [
  (1, ⟨.func #[] #[] false, 1, 8, [.v (.nilFunc)], false⟩),
  (2, ⟨.int .i64, 1, 8, [.v (.int .i64 0)], false⟩),
  (3, ⟨.int .i64, 1, 8, [.v (.int .i64 0)], false⟩),
  (4, ⟨.bool, 1, 1, [.v (.bool false)], false⟩),
  (5, ⟨.int .u8, 1, 1, [.v (.int .u8 0)], false⟩),
  (9, ⟨.string, 1, 16, [.v (.string (mkS []))], false⟩),
  (12, ⟨.int .u64, 1, 8, [.v (.int .u64 0)], false⟩),
  (13, ⟨.struct #[{ name := "msg", type := 9, offset := 0, embedded := false, tag := "", pkgPath := "runtime", byteOffset := 0 }, { name := "addr", type := 12, offset := 1, embedded := false, tag := "", pkgPath := "runtime", byteOffset := 16 }], 2, 24, [.v (.string (mkS [])), .v (.int .u64 0)], false⟩),
  (15, ⟨.pointer 56, 1, 8, [.v (.pointer none)], false⟩),
  (16, ⟨.pointer 59, 1, 8, [.v (.pointer none)], false⟩),
  (20, ⟨.interface #[], 1, 16, [.v (.nilIface)], false⟩),
  (21, ⟨.int .i32, 1, 4, [.v (.int .i32 0)], false⟩),
  (22, ⟨.slice 30, 1, 24, [.sl 2 0 0 nilRow], false⟩),
  (23, ⟨.func #[] #[4] false, 1, 8, [.v (.nilFunc)], false⟩),
  (24, ⟨.struct #[{ name := "is", type := 4, offset := 0, embedded := false, tag := "", pkgPath := "kinescope/mark", byteOffset := 0 }, { name := "late", type := 3, offset := 1, embedded := false, tag := "", pkgPath := "kinescope/mark", byteOffset := 8 }, { name := "now", type := 3, offset := 2, embedded := false, tag := "", pkgPath := "kinescope/mark", byteOffset := 16 }], 3, 24, [.v (.bool false), .v (.int .i64 0), .v (.int .i64 0)], true⟩),
  (25, ⟨.struct #[{ name := "is", type := 4, offset := 0, embedded := false, tag := "", pkgPath := "kinescope/mark", byteOffset := 0 }, { name := "late", type := 3, offset := 1, embedded := false, tag := "", pkgPath := "kinescope/mark", byteOffset := 8 }, { name := "now", type := 3, offset := 2, embedded := false, tag := "", pkgPath := "kinescope/mark", byteOffset := 16 }], 3, 24, [.v (.bool false), .v (.int .i64 0), .v (.int .i64 0)], true⟩),
  (26, ⟨.int .i64, 1, 8, [.v (.int .i64 0)], false⟩),
  (28, ⟨.func #[3] #[25, 26] false, 1, 8, [.v (.nilFunc)], false⟩),
  (29, ⟨.struct #[{ name := "Point", type := 4, offset := 0, embedded := false, tag := "", pkgPath := "", byteOffset := 0 }, { name := "Time", type := 3, offset := 1, embedded := false, tag := "", pkgPath := "", byteOffset := 8 }], 2, 16, [.v (.bool false), .v (.int .i64 0)], true⟩),
  (30, ⟨.struct #[{ name := "Point", type := 4, offset := 0, embedded := false, tag := "", pkgPath := "", byteOffset := 0 }, { name := "Time", type := 3, offset := 1, embedded := false, tag := "", pkgPath := "", byteOffset := 8 }], 2, 16, [.v (.bool false), .v (.int .i64 0)], true⟩),
  (31, ⟨.func #[] #[3] false, 1, 8, [.v (.nilFunc)], false⟩),
  (32, ⟨.func #[3, 22] #[4] false, 1, 8, [.v (.nilFunc)], false⟩),
  (33, ⟨.slice 3, 1, 24, [.sl 1 0 0 nilRow], false⟩),
  (34, ⟨.func #[3, 3] #[3] false, 1, 8, [.v (.nilFunc)], false⟩),
  (35, ⟨.func #[3, 33, 3] #[4] false, 1, 8, [.v (.nilFunc)], false⟩),
  (36, ⟨.struct #[{ name := "Is", type := 4, offset := 0, embedded := false, tag := "", pkgPath := "", byteOffset := 0 }, { name := "Late", type := 3, offset := 1, embedded := false, tag := "", pkgPath := "", byteOffset := 8 }, { name := "Points", type := 33, offset := 2, embedded := false, tag := "", pkgPath := "", byteOffset := 16 }], 3, 40, [.v (.bool false), .v (.int .i64 0), .sl 1 0 0 nilRow], false⟩),
  (37, ⟨.struct #[{ name := "Is", type := 4, offset := 0, embedded := false, tag := "", pkgPath := "", byteOffset := 0 }, { name := "Late", type := 3, offset := 1, embedded := false, tag := "", pkgPath := "", byteOffset := 8 }, { name := "Points", type := 33, offset := 2, embedded := false, tag := "", pkgPath := "", byteOffset := 16 }], 3, 40, [.v (.bool false), .v (.int .i64 0), .sl 1 0 0 nilRow], false⟩),
  (39, ⟨.func #[3] #[37, 26] false, 1, 8, [.v (.nilFunc)], false⟩),
  (40, ⟨.func #[25, 37, 3] #[4] false, 1, 8, [.v (.nilFunc)], false⟩),
  (41, ⟨.func #[33] #[33] false, 1, 8, [.v (.nilFunc)], false⟩),
  (42, ⟨.func #[25, 44] #[25] false, 1, 8, [.v (.nilFunc)], false⟩),
  (43, ⟨.func #[49] #[] false, 1, 8, [.v (.nilFunc)], false⟩),
  (44, ⟨.func #[49] #[] false, 1, 8, [.v (.nilFunc)], false⟩),
  (45, ⟨.func #[33] #[44] false, 1, 8, [.v (.nilFunc)], false⟩),
  (46, ⟨.func #[37, 33] #[37] false, 1, 8, [.v (.nilFunc)], false⟩),
  (47, ⟨.func #[33, 33] #[4] false, 1, 8, [.v (.nilFunc)], false⟩),
  (48, ⟨.func #[3, 3, 33] #[4] false, 1, 8, [.v (.nilFunc)], false⟩),
  (49, ⟨.func #[3] #[4] false, 1, 8, [.v (.nilFunc)], false⟩),
  (50, ⟨.func #[3] #[26] false, 1, 8, [.v (.nilFunc)], false⟩),
  (51, ⟨.func #[3] #[25] false, 1, 8, [.v (.nilFunc)], false⟩),
  (52, ⟨.func #[3] #[37] false, 1, 8, [.v (.nilFunc)], false⟩),
  (53, ⟨.int .u64, 1, 8, [.v (.int .u64 0)], false⟩),
  (54, ⟨.func #[] #[9] false, 1, 8, [.v (.nilFunc)], false⟩),
  (57, ⟨.array 0 16, 0, 0, [], false⟩),
  (58, ⟨.struct #[{ name := "_", type := 57, offset := 0, embedded := false, tag := "", pkgPath := "runtime", byteOffset := 0 }], 0, 0, [], false⟩),
  (60, ⟨.int .u32, 1, 4, [.v (.int .u32 0)], false⟩),
  (63, ⟨.func #[69, 69] #[4] false, 1, 8, [.v (.nilFunc)], false⟩),
  (64, ⟨.pointer 5, 1, 8, [.v (.pointer none)], false⟩)]
theorem te_1 : klook 1 te = some ⟨.func #[] #[] false, 1, 8, [.v (.nilFunc)], false⟩ := rfl
theorem te_2 : klook 2 te = some ⟨.int .i64, 1, 8, [.v (.int .i64 0)], false⟩ := rfl
theorem te_3 : klook 3 te = some ⟨.int .i64, 1, 8, [.v (.int .i64 0)], false⟩ := rfl
theorem te_4 : klook 4 te = some ⟨.bool, 1, 1, [.v (.bool false)], false⟩ := rfl
theorem te_5 : klook 5 te = some ⟨.int .u8, 1, 1, [.v (.int .u8 0)], false⟩ := rfl
theorem te_9 : klook 9 te = some ⟨.string, 1, 16, [.v (.string (mkS []))], false⟩ := rfl
theorem te_12 : klook 12 te = some ⟨.int .u64, 1, 8, [.v (.int .u64 0)], false⟩ := rfl
theorem te_13 : klook 13 te = some ⟨.struct #[{ name := "msg", type := 9, offset := 0, embedded := false, tag := "", pkgPath := "runtime", byteOffset := 0 }, { name := "addr", type := 12, offset := 1, embedded := false, tag := "", pkgPath := "runtime", byteOffset := 16 }], 2, 24, [.v (.string (mkS [])), .v (.int .u64 0)], false⟩ := rfl
theorem te_15 : klook 15 te = some ⟨.pointer 56, 1, 8, [.v (.pointer none)], false⟩ := rfl
theorem te_16 : klook 16 te = some ⟨.pointer 59, 1, 8, [.v (.pointer none)], false⟩ := rfl
theorem te_20 : klook 20 te = some ⟨.interface #[], 1, 16, [.v (.nilIface)], false⟩ := rfl
theorem te_21 : klook 21 te = some ⟨.int .i32, 1, 4, [.v (.int .i32 0)], false⟩ := rfl
theorem te_22 : klook 22 te = some ⟨.slice 30, 1, 24, [.sl 2 0 0 nilRow], false⟩ := rfl
theorem te_23 : klook 23 te = some ⟨.func #[] #[4] false, 1, 8, [.v (.nilFunc)], false⟩ := rfl
theorem te_24 : klook 24 te = some ⟨.struct #[{ name := "is", type := 4, offset := 0, embedded := false, tag := "", pkgPath := "kinescope/mark", byteOffset := 0 }, { name := "late", type := 3, offset := 1, embedded := false, tag := "", pkgPath := "kinescope/mark", byteOffset := 8 }, { name := "now", type := 3, offset := 2, embedded := false, tag := "", pkgPath := "kinescope/mark", byteOffset := 16 }], 3, 24, [.v (.bool false), .v (.int .i64 0), .v (.int .i64 0)], true⟩ := rfl
theorem te_25 : klook 25 te = some ⟨.struct #[{ name := "is", type := 4, offset := 0, embedded := false, tag := "", pkgPath := "kinescope/mark", byteOffset := 0 }, { name := "late", type := 3, offset := 1, embedded := false, tag := "", pkgPath := "kinescope/mark", byteOffset := 8 }, { name := "now", type := 3, offset := 2, embedded := false, tag := "", pkgPath := "kinescope/mark", byteOffset := 16 }], 3, 24, [.v (.bool false), .v (.int .i64 0), .v (.int .i64 0)], true⟩ := rfl
theorem te_26 : klook 26 te = some ⟨.int .i64, 1, 8, [.v (.int .i64 0)], false⟩ := rfl
theorem te_28 : klook 28 te = some ⟨.func #[3] #[25, 26] false, 1, 8, [.v (.nilFunc)], false⟩ := rfl
theorem te_29 : klook 29 te = some ⟨.struct #[{ name := "Point", type := 4, offset := 0, embedded := false, tag := "", pkgPath := "", byteOffset := 0 }, { name := "Time", type := 3, offset := 1, embedded := false, tag := "", pkgPath := "", byteOffset := 8 }], 2, 16, [.v (.bool false), .v (.int .i64 0)], true⟩ := rfl
theorem te_30 : klook 30 te = some ⟨.struct #[{ name := "Point", type := 4, offset := 0, embedded := false, tag := "", pkgPath := "", byteOffset := 0 }, { name := "Time", type := 3, offset := 1, embedded := false, tag := "", pkgPath := "", byteOffset := 8 }], 2, 16, [.v (.bool false), .v (.int .i64 0)], true⟩ := rfl
theorem te_31 : klook 31 te = some ⟨.func #[] #[3] false, 1, 8, [.v (.nilFunc)], false⟩ := rfl
theorem te_32 : klook 32 te = some ⟨.func #[3, 22] #[4] false, 1, 8, [.v (.nilFunc)], false⟩ := rfl
theorem te_33 : klook 33 te = some ⟨.slice 3, 1, 24, [.sl 1 0 0 nilRow], false⟩ := rfl
theorem te_34 : klook 34 te = some ⟨.func #[3, 3] #[3] false, 1, 8, [.v (.nilFunc)], false⟩ := rfl
theorem te_35 : klook 35 te = some ⟨.func #[3, 33, 3] #[4] false, 1, 8, [.v (.nilFunc)], false⟩ := rfl
theorem te_36 : klook 36 te = some ⟨.struct #[{ name := "Is", type := 4, offset := 0, embedded := false, tag := "", pkgPath := "", byteOffset := 0 }, { name := "Late", type := 3, offset := 1, embedded := false, tag := "", pkgPath := "", byteOffset := 8 }, { name := "Points", type := 33, offset := 2, embedded := false, tag := "", pkgPath := "", byteOffset := 16 }], 3, 40, [.v (.bool false), .v (.int .i64 0), .sl 1 0 0 nilRow], false⟩ := rfl
theorem te_37 : klook 37 te = some ⟨.struct #[{ name := "Is", type := 4, offset := 0, embedded := false, tag := "", pkgPath := "", byteOffset := 0 }, { name := "Late", type := 3, offset := 1, embedded := false, tag := "", pkgPath := "", byteOffset := 8 }, { name := "Points", type := 33, offset := 2, embedded := false, tag := "", pkgPath := "", byteOffset := 16 }], 3, 40, [.v (.bool false), .v (.int .i64 0), .sl 1 0 0 nilRow], false⟩ := rfl
theorem te_39 : klook 39 te = some ⟨.func #[3] #[37, 26] false, 1, 8, [.v (.nilFunc)], false⟩ := rfl
theorem te_40 : klook 40 te = some ⟨.func #[25, 37, 3] #[4] false, 1, 8, [.v (.nilFunc)], false⟩ := rfl
theorem te_41 : klook 41 te = some ⟨.func #[33] #[33] false, 1, 8, [.v (.nilFunc)], false⟩ := rfl
theorem te_42 : klook 42 te = some ⟨.func #[25, 44] #[25] false, 1, 8, [.v (.nilFunc)], false⟩ := rfl
theorem te_43 : klook 43 te = some ⟨.func #[49] #[] false, 1, 8, [.v (.nilFunc)], false⟩ := rfl
theorem te_44 : klook 44 te = some ⟨.func #[49] #[] false, 1, 8, [.v (.nilFunc)], false⟩ := rfl
theorem te_45 : klook 45 te = some ⟨.func #[33] #[44] false, 1, 8, [.v (.nilFunc)], false⟩ := rfl
theorem te_46 : klook 46 te = some ⟨.func #[37, 33] #[37] false, 1, 8, [.v (.nilFunc)], false⟩ := rfl
theorem te_47 : klook 47 te = some ⟨.func #[33, 33] #[4] false, 1, 8, [.v (.nilFunc)], false⟩ := rfl
theorem te_48 : klook 48 te = some ⟨.func #[3, 3, 33] #[4] false, 1, 8, [.v (.nilFunc)], false⟩ := rfl
theorem te_49 : klook 49 te = some ⟨.func #[3] #[4] false, 1, 8, [.v (.nilFunc)], false⟩ := rfl
theorem te_50 : klook 50 te = some ⟨.func #[3] #[26] false, 1, 8, [.v (.nilFunc)], false⟩ := rfl
theorem te_51 : klook 51 te = some ⟨.func #[3] #[25] false, 1, 8, [.v (.nilFunc)], false⟩ := rfl
theorem te_52 : klook 52 te = some ⟨.func #[3] #[37] false, 1, 8, [.v (.nilFunc)], false⟩ := rfl
theorem te_53 : klook 53 te = some ⟨.int .u64, 1, 8, [.v (.int .u64 0)], false⟩ := rfl
theorem te_54 : klook 54 te = some ⟨.func #[] #[9] false, 1, 8, [.v (.nilFunc)], false⟩ := rfl
theorem te_57 : klook 57 te = some ⟨.array 0 16, 0, 0, [], false⟩ := rfl
theorem te_58 : klook 58 te = some ⟨.struct #[{ name := "_", type := 57, offset := 0, embedded := false, tag := "", pkgPath := "runtime", byteOffset := 0 }], 0, 0, [], false⟩ := rfl
theorem te_60 : klook 60 te = some ⟨.int .u32, 1, 4, [.v (.int .u32 0)], false⟩ := rfl
theorem te_63 : klook 63 te = some ⟨.func #[69, 69] #[4] false, 1, 8, [.v (.nilFunc)], false⟩ := rfl
theorem te_64 : klook 64 te = some ⟨.pointer 5, 1, 8, [.v (.pointer none)], false⟩ := rfl
theorem te_ok : TEok Try.prog te := by
  unfold te
  refine TEok.cons (z := .nilFunc) Try.underlying1 (by as_aux_lemma => kernel_rfl) (fun w Z => (RdL_v0 RdL_n0)) (fun h => nomatch h) ?_
  refine TEok.cons (z := .int .i64 0) Try.underlying2 (by as_aux_lemma => kernel_rfl) (fun w Z => (RdL_v0 RdL_n0)) (fun h => nomatch h) ?_
  refine TEok.cons (z := .int .i64 0) Try.underlying3 (by as_aux_lemma => kernel_rfl) (fun w Z => (RdL_v0 RdL_n0)) (fun h => nomatch h) ?_
  refine TEok.cons (z := .bool false) Try.underlying4 (by as_aux_lemma => kernel_rfl) (fun w Z => (RdL_v0 RdL_n0)) (fun h => nomatch h) ?_
  refine TEok.cons (z := .int .u8 0) Try.underlying5 (by as_aux_lemma => kernel_rfl) (fun w Z => (RdL_v0 RdL_n0)) (fun h => nomatch h) ?_
  refine TEok.cons (z := .string ⟨#[]⟩) Try.underlying9 (by as_aux_lemma => kernel_rfl) (fun w Z => (RdL_v0 RdL_n0)) (fun h => nomatch h) ?_
  refine TEok.cons (z := .int .u64 0) Try.underlying12 (by as_aux_lemma => kernel_rfl) (fun w Z => (RdL_v0 RdL_n0)) (fun h => nomatch h) ?_
  refine TEok.cons (z := .agg #[.string ⟨#[]⟩, .int .u64 0]) Try.underlying13 (by as_aux_lemma => kernel_rfl) (fun w Z => (RdL_v0 (RdL_v0 RdL_n0))) (fun h => nomatch h) ?_
  refine TEok.cons (z := .pointer none) Try.underlying15 (by as_aux_lemma => kernel_rfl) (fun w Z => (RdL_v0 RdL_n0)) (fun h => nomatch h) ?_
  refine TEok.cons (z := .pointer none) Try.underlying16 (by as_aux_lemma => kernel_rfl) (fun w Z => (RdL_v0 RdL_n0)) (fun h => nomatch h) ?_
  refine TEok.cons (z := .nilIface) Try.underlying20 (by as_aux_lemma => kernel_rfl) (fun w Z => (RdL_v0 RdL_n0)) (fun h => nomatch h) ?_
  refine TEok.cons (z := .int .i32 0) Try.underlying21 (by as_aux_lemma => kernel_rfl) (fun w Z => (RdL_v0 RdL_n0)) (fun h => nomatch h) ?_
  refine TEok.cons (z := .slice none 0 0) Try.underlying22 (by as_aux_lemma => kernel_rfl) (fun w Z => (RdL_s0 RdL_n0)) (fun h => nomatch h) ?_
  refine TEok.cons (z := .nilFunc) Try.underlying23 (by as_aux_lemma => kernel_rfl) (fun w Z => (RdL_v0 RdL_n0)) (fun h => nomatch h) ?_
  refine TEok.cons (z := .agg #[.bool false, .int .i64 0, .int .i64 0]) Try.underlying24 (by as_aux_lemma => kernel_rfl) (fun w Z => (RdL_v0 (RdL_v0 (RdL_v0 RdL_n0)))) (fun _ => ⟨by as_aux_lemma => kernel_rfl, by as_aux_lemma => kernel_rfl⟩) ?_
  refine TEok.cons (z := .agg #[.bool false, .int .i64 0, .int .i64 0]) Try.underlying25 (by as_aux_lemma => kernel_rfl) (fun w Z => (RdL_v0 (RdL_v0 (RdL_v0 RdL_n0)))) (fun _ => ⟨by as_aux_lemma => kernel_rfl, by as_aux_lemma => kernel_rfl⟩) ?_
  refine TEok.cons (z := .int .i64 0) Try.underlying26 (by as_aux_lemma => kernel_rfl) (fun w Z => (RdL_v0 RdL_n0)) (fun h => nomatch h) ?_
  refine TEok.cons (z := .nilFunc) Try.underlying28 (by as_aux_lemma => kernel_rfl) (fun w Z => (RdL_v0 RdL_n0)) (fun h => nomatch h) ?_
  refine TEok.cons (z := .agg #[.bool false, .int .i64 0]) Try.underlying29 (by as_aux_lemma => kernel_rfl) (fun w Z => (RdL_v0 (RdL_v0 RdL_n0))) (fun _ => ⟨by as_aux_lemma => kernel_rfl, by as_aux_lemma => kernel_rfl⟩) ?_
  refine TEok.cons (z := .agg #[.bool false, .int .i64 0]) Try.underlying30 (by as_aux_lemma => kernel_rfl) (fun w Z => (RdL_v0 (RdL_v0 RdL_n0))) (fun _ => ⟨by as_aux_lemma => kernel_rfl, by as_aux_lemma => kernel_rfl⟩) ?_
  refine TEok.cons (z := .nilFunc) Try.underlying31 (by as_aux_lemma => kernel_rfl) (fun w Z => (RdL_v0 RdL_n0)) (fun h => nomatch h) ?_
  refine TEok.cons (z := .nilFunc) Try.underlying32 (by as_aux_lemma => kernel_rfl) (fun w Z => (RdL_v0 RdL_n0)) (fun h => nomatch h) ?_
  refine TEok.cons (z := .slice none 0 0) Try.underlying33 (by as_aux_lemma => kernel_rfl) (fun w Z => (RdL_s0 RdL_n0)) (fun h => nomatch h) ?_
  refine TEok.cons (z := .nilFunc) Try.underlying34 (by as_aux_lemma => kernel_rfl) (fun w Z => (RdL_v0 RdL_n0)) (fun h => nomatch h) ?_
  refine TEok.cons (z := .nilFunc) Try.underlying35 (by as_aux_lemma => kernel_rfl) (fun w Z => (RdL_v0 RdL_n0)) (fun h => nomatch h) ?_
  refine TEok.cons (z := .agg #[.bool false, .int .i64 0, .slice none 0 0]) Try.underlying36 (by as_aux_lemma => kernel_rfl) (fun w Z => (RdL_v0 (RdL_v0 (RdL_s0 RdL_n0)))) (fun h => nomatch h) ?_
  refine TEok.cons (z := .agg #[.bool false, .int .i64 0, .slice none 0 0]) Try.underlying37 (by as_aux_lemma => kernel_rfl) (fun w Z => (RdL_v0 (RdL_v0 (RdL_s0 RdL_n0)))) (fun h => nomatch h) ?_
  refine TEok.cons (z := .nilFunc) Try.underlying39 (by as_aux_lemma => kernel_rfl) (fun w Z => (RdL_v0 RdL_n0)) (fun h => nomatch h) ?_
  refine TEok.cons (z := .nilFunc) Try.underlying40 (by as_aux_lemma => kernel_rfl) (fun w Z => (RdL_v0 RdL_n0)) (fun h => nomatch h) ?_
  refine TEok.cons (z := .nilFunc) Try.underlying41 (by as_aux_lemma => kernel_rfl) (fun w Z => (RdL_v0 RdL_n0)) (fun h => nomatch h) ?_
  refine TEok.cons (z := .nilFunc) Try.underlying42 (by as_aux_lemma => kernel_rfl) (fun w Z => (RdL_v0 RdL_n0)) (fun h => nomatch h) ?_
  refine TEok.cons (z := .nilFunc) Try.underlying43 (by as_aux_lemma => kernel_rfl) (fun w Z => (RdL_v0 RdL_n0)) (fun h => nomatch h) ?_
  refine TEok.cons (z := .nilFunc) Try.underlying44 (by as_aux_lemma => kernel_rfl) (fun w Z => (RdL_v0 RdL_n0)) (fun h => nomatch h) ?_
  refine TEok.cons (z := .nilFunc) Try.underlying45 (by as_aux_lemma => kernel_rfl) (fun w Z => (RdL_v0 RdL_n0)) (fun h => nomatch h) ?_
  refine TEok.cons (z := .nilFunc) Try.underlying46 (by as_aux_lemma => kernel_rfl) (fun w Z => (RdL_v0 RdL_n0)) (fun h => nomatch h) ?_
  refine TEok.cons (z := .nilFunc) Try.underlying47 (by as_aux_lemma => kernel_rfl) (fun w Z => (RdL_v0 RdL_n0)) (fun h => nomatch h) ?_
  refine TEok.cons (z := .nilFunc) Try.underlying48 (by as_aux_lemma => kernel_rfl) (fun w Z => (RdL_v0 RdL_n0)) (fun h => nomatch h) ?_
  refine TEok.cons (z := .nilFunc) Try.underlying49 (by as_aux_lemma => kernel_rfl) (fun w Z => (RdL_v0 RdL_n0)) (fun h => nomatch h) ?_
  refine TEok.cons (z := .nilFunc) Try.underlying50 (by as_aux_lemma => kernel_rfl) (fun w Z => (RdL_v0 RdL_n0)) (fun h => nomatch h) ?_
  refine TEok.cons (z := .nilFunc) Try.underlying51 (by as_aux_lemma => kernel_rfl) (fun w Z => (RdL_v0 RdL_n0)) (fun h => nomatch h) ?_
  refine TEok.cons (z := .nilFunc) Try.underlying52 (by as_aux_lemma => kernel_rfl) (fun w Z => (RdL_v0 RdL_n0)) (fun h => nomatch h) ?_
  refine TEok.cons (z := .int .u64 0) Try.underlying53 (by as_aux_lemma => kernel_rfl) (fun w Z => (RdL_v0 RdL_n0)) (fun h => nomatch h) ?_
  refine TEok.cons (z := .nilFunc) Try.underlying54 (by as_aux_lemma => kernel_rfl) (fun w Z => (RdL_v0 RdL_n0)) (fun h => nomatch h) ?_
  refine TEok.cons (z := .agg #[]) Try.underlying57 (by as_aux_lemma => kernel_rfl) (fun w Z => RdL_n0) (fun h => nomatch h) ?_
  refine TEok.cons (z := .agg #[]) Try.underlying58 (by as_aux_lemma => kernel_rfl) (fun w Z => RdL_n0) (fun h => nomatch h) ?_
  refine TEok.cons (z := .int .u32 0) Try.underlying60 (by as_aux_lemma => kernel_rfl) (fun w Z => (RdL_v0 RdL_n0)) (fun h => nomatch h) ?_
  refine TEok.cons (z := .nilFunc) Try.underlying63 (by as_aux_lemma => kernel_rfl) (fun w Z => (RdL_v0 RdL_n0)) (fun h => nomatch h) ?_
  refine TEok.cons (z := .pointer none) Try.underlying64 (by as_aux_lemma => kernel_rfl) (fun w Z => (RdL_v0 RdL_n0)) (fun h => nomatch h) ?_
  exact TEok.nil

end Go.Proofs.Ytlcpglkbllhokaa
