/-
  What the translation says of its types, each by the kernel.
-/
import Derived.Test.YtdjkaapmaonegaaAbThree
import Derived.Test.YtdjkaapmaonegaaProg
import Derived.KernelRfl
namespace Go.Proofs.Ytdjkaapmaonegaa.Ab
open Go.Proofs
theorem ti0 : tyInfo Try.prog 0 = some (false, 1) := by kernel_rfl
theorem zi0 : zeroAV Try.prog 0 = some (.v (.tuple #[])) := by kernel_rfl
theorem ti1 : tyInfo Try.prog 1 = some (false, 1) := by kernel_rfl
theorem zi1 : zeroAV Try.prog 1 = some (.v .nilFunc) := by kernel_rfl
theorem ti2 : tyInfo Try.prog 2 = some (false, 1) := by kernel_rfl
theorem zi2 : zeroAV Try.prog 2 = some (.v (.int .i64 0)) := by kernel_rfl
theorem un2 : Program.underlying Try.prog 2 = some (.int .i64) := by kernel_rfl
theorem ti3 : tyInfo Try.prog 3 = some (false, 1) := by kernel_rfl
theorem zi3 : zeroAV Try.prog 3 = some (.v (.int .i64 0)) := by kernel_rfl
theorem un3 : Program.underlying Try.prog 3 = some (.int .i64) := by kernel_rfl
theorem ti4 : tyInfo Try.prog 4 = some (false, 1) := by kernel_rfl
theorem zi4 : zeroAV Try.prog 4 = some (.v (.bool false)) := by kernel_rfl
theorem un4 : Program.underlying Try.prog 4 = some .bool := by kernel_rfl
theorem ti5 : tyInfo Try.prog 5 = some (false, 1) := by kernel_rfl
theorem zi5 : zeroAV Try.prog 5 = some (.v (.int .u8 0)) := by kernel_rfl
theorem un5 : Program.underlying Try.prog 5 = some (.int .u8) := by kernel_rfl
theorem ti7 : tyInfo Try.prog 7 = some (true, 4) := by kernel_rfl
theorem fi7_0 : fieldInfo Try.prog 7 0 = some (0, 2) := by kernel_rfl
theorem fi7_1 : fieldInfo Try.prog 7 1 = some (1, 3) := by kernel_rfl
theorem fi7_2 : fieldInfo Try.prog 7 2 = some (2, 4) := by kernel_rfl
theorem fi7_3 : fieldInfo Try.prog 7 3 = some (3, 6) := by kernel_rfl
theorem zi7 : zeroAV Try.prog 7 = some (.agg [.v (.int .i64 0), .v (.int .i64 0), .v (.bool false), .v (.int .u8 0)]) := by kernel_rfl
theorem sp7 : structPlaces Try.prog 7 = some [(0, 1), (1, 1), (2, 1), (3, 1)] := by kernel_rfl
theorem ti9 : tyInfo Try.prog 9 = some (false, 1) := by kernel_rfl
theorem ei9 : elemInfo Try.prog 9 = none := by kernel_rfl
theorem zi9 : zeroAV Try.prog 9 = some (.v (.string ⟨#[]⟩)) := by kernel_rfl
theorem un9 : Program.underlying Try.prog 9 = some .string := by kernel_rfl
theorem ti13 : tyInfo Try.prog 13 = some (true, 2) := by kernel_rfl
theorem fi13_0 : fieldInfo Try.prog 13 0 = some (0, 9) := by kernel_rfl
theorem fi13_1 : fieldInfo Try.prog 13 1 = some (1, 12) := by kernel_rfl
theorem zi13 : zeroAV Try.prog 13 = some (.agg [.v (.string ⟨#[]⟩), .v (.int .u64 0)]) := by kernel_rfl
theorem sp13 : structPlaces Try.prog 13 = some [(0, 1), (1, 1)] := by kernel_rfl
theorem ti18 : tyInfo Try.prog 18 = some (true, 1) := by kernel_rfl
theorem fi18_0 : fieldInfo Try.prog 18 0 = some (0, 17) := by kernel_rfl
theorem zi18 : zeroAV Try.prog 18 = some (.agg [.v (.pointer none)]) := by kernel_rfl
theorem sp18 : structPlaces Try.prog 18 = some [(0, 1)] := by kernel_rfl
theorem ti20 : tyInfo Try.prog 20 = some (false, 1) := by kernel_rfl
theorem zi20 : zeroAV Try.prog 20 = some (.v .nilIface) := by kernel_rfl
theorem ti21 : tyInfo Try.prog 21 = some (false, 1) := by kernel_rfl
theorem zi21 : zeroAV Try.prog 21 = some (.v (.int .i32 0)) := by kernel_rfl
theorem un21 : Program.underlying Try.prog 21 = some (.int .i32) := by kernel_rfl
theorem ti22 : tyInfo Try.prog 22 = some (false, 1) := by kernel_rfl
theorem ei22 : elemInfo Try.prog 22 = some (27, 2) := by kernel_rfl
theorem ai22 : appInfo Try.prog 22 22 = some ⟨27, 2, 32⟩ := by kernel_rfl
theorem zi22 : zeroAV Try.prog 22 = some (.v (.slice none 0 0)) := by kernel_rfl
theorem un22 : Program.underlying Try.prog 22 = some (.slice 27) := by kernel_rfl
theorem ti23 : tyInfo Try.prog 23 = some (false, 1) := by kernel_rfl
theorem zi23 : zeroAV Try.prog 23 = some (.v .nilFunc) := by kernel_rfl
theorem ti24 : tyInfo Try.prog 24 = some (false, 1) := by kernel_rfl
theorem zi24 : zeroAV Try.prog 24 = some (.v .nilFunc) := by kernel_rfl
theorem ti25 : tyInfo Try.prog 25 = some (false, 1) := by kernel_rfl
theorem ei25 : elemInfo Try.prog 25 = some (3, 1) := by kernel_rfl
theorem ai25 : appInfo Try.prog 25 25 = some ⟨3, 1, 8⟩ := by kernel_rfl
theorem zi25 : zeroAV Try.prog 25 = some (.v (.slice none 0 0)) := by kernel_rfl
theorem un25 : Program.underlying Try.prog 25 = some (.slice 3) := by kernel_rfl
theorem ti26 : tyInfo Try.prog 26 = some (true, 2) := by kernel_rfl
theorem fi26_0 : fieldInfo Try.prog 26 0 = some (0, 3) := by kernel_rfl
theorem fi26_1 : fieldInfo Try.prog 26 1 = some (1, 25) := by kernel_rfl
theorem zi26 : zeroAV Try.prog 26 = some (.agg [.v (.int .i64 0), .v (.slice none 0 0)]) := by kernel_rfl
theorem sp26 : structPlaces Try.prog 26 = some [(0, 1), (1, 1)] := by kernel_rfl
theorem ti27 : tyInfo Try.prog 27 = some (true, 2) := by kernel_rfl
theorem fi27_0 : fieldInfo Try.prog 27 0 = some (0, 3) := by kernel_rfl
theorem fi27_1 : fieldInfo Try.prog 27 1 = some (1, 25) := by kernel_rfl
theorem zi27 : zeroAV Try.prog 27 = some (.agg [.v (.int .i64 0), .v (.slice none 0 0)]) := by kernel_rfl
theorem sp27 : structPlaces Try.prog 27 = some [(0, 1), (1, 1)] := by kernel_rfl
theorem ti28 : tyInfo Try.prog 28 = some (false, 1) := by kernel_rfl
theorem zi28 : zeroAV Try.prog 28 = some (.v .nilFunc) := by kernel_rfl
theorem ti29 : tyInfo Try.prog 29 = some (false, 1) := by kernel_rfl
theorem zi29 : zeroAV Try.prog 29 = some (.v .nilFunc) := by kernel_rfl
theorem ti30 : tyInfo Try.prog 30 = some (false, 1) := by kernel_rfl
theorem zi30 : zeroAV Try.prog 30 = some (.v .nilFunc) := by kernel_rfl
theorem ti31 : tyInfo Try.prog 31 = some (false, 1) := by kernel_rfl
theorem zi31 : zeroAV Try.prog 31 = some (.v (.int .i64 0)) := by kernel_rfl
theorem un31 : Program.underlying Try.prog 31 = some (.int .i64) := by kernel_rfl
theorem ti32 : tyInfo Try.prog 32 = some (false, 1) := by kernel_rfl
theorem ti33 : tyInfo Try.prog 33 = some (false, 1) := by kernel_rfl
theorem zi33 : zeroAV Try.prog 33 = some (.v .nilFunc) := by kernel_rfl
theorem ti34 : tyInfo Try.prog 34 = some (false, 1) := by kernel_rfl
theorem zi34 : zeroAV Try.prog 34 = some (.v .nilFunc) := by kernel_rfl
theorem ti35 : tyInfo Try.prog 35 = some (false, 1) := by kernel_rfl
theorem zi35 : zeroAV Try.prog 35 = some (.v .nilFunc) := by kernel_rfl
theorem ti36 : tyInfo Try.prog 36 = some (false, 1) := by kernel_rfl
theorem zi36 : zeroAV Try.prog 36 = some (.v .nilFunc) := by kernel_rfl
theorem ti37 : tyInfo Try.prog 37 = some (false, 1) := by kernel_rfl
theorem zi37 : zeroAV Try.prog 37 = some (.v .nilFunc) := by kernel_rfl
theorem ti38 : tyInfo Try.prog 38 = some (false, 1) := by kernel_rfl
theorem zi38 : zeroAV Try.prog 38 = some (.v .nilFunc) := by kernel_rfl
theorem ti39 : tyInfo Try.prog 39 = some (false, 1) := by kernel_rfl
theorem zi39 : zeroAV Try.prog 39 = some (.v .nilFunc) := by kernel_rfl
theorem ti40 : tyInfo Try.prog 40 = some (false, 1) := by kernel_rfl
theorem zi40 : zeroAV Try.prog 40 = some (.v .nilFunc) := by kernel_rfl
theorem ti41 : tyInfo Try.prog 41 = some (false, 1) := by kernel_rfl
theorem zi41 : zeroAV Try.prog 41 = some (.v .nilFunc) := by kernel_rfl
theorem ti42 : tyInfo Try.prog 42 = some (false, 1) := by kernel_rfl
theorem zi42 : zeroAV Try.prog 42 = some (.v .nilFunc) := by kernel_rfl
theorem ti43 : tyInfo Try.prog 43 = some (false, 1) := by kernel_rfl
theorem zi43 : zeroAV Try.prog 43 = some (.v .nilFunc) := by kernel_rfl
theorem ti44 : tyInfo Try.prog 44 = some (false, 1) := by kernel_rfl
theorem ti45 : tyInfo Try.prog 45 = some (false, 1) := by kernel_rfl
theorem zi45 : zeroAV Try.prog 45 = some (.v .nilFunc) := by kernel_rfl
theorem ti46 : tyInfo Try.prog 46 = some (false, 1) := by kernel_rfl
theorem zi46 : zeroAV Try.prog 46 = some (.v .nilFunc) := by kernel_rfl
theorem ti47 : tyInfo Try.prog 47 = some (false, 1) := by kernel_rfl
theorem zi47 : zeroAV Try.prog 47 = some (.v .nilFunc) := by kernel_rfl
theorem ti48 : tyInfo Try.prog 48 = some (false, 1) := by kernel_rfl
theorem zi48 : zeroAV Try.prog 48 = some (.v .nilFunc) := by kernel_rfl
theorem ti49 : tyInfo Try.prog 49 = some (false, 1) := by kernel_rfl
theorem zi49 : zeroAV Try.prog 49 = some (.v .nilFunc) := by kernel_rfl
theorem ti50 : tyInfo Try.prog 50 = some (false, 1) := by kernel_rfl
theorem zi50 : zeroAV Try.prog 50 = some (.v (.map none)) := by kernel_rfl
theorem mi50 : mapInfo Try.prog 50 = some ((.int .i64), 4) := by kernel_rfl
theorem un50 : Program.underlying Try.prog 50 = some (.map 3 4) := by kernel_rfl
theorem ti51 : tyInfo Try.prog 51 = some (false, 1) := by kernel_rfl
theorem zi51 : zeroAV Try.prog 51 = some (.v .nilFunc) := by kernel_rfl
theorem ti52 : tyInfo Try.prog 52 = some (false, 1) := by kernel_rfl
theorem zi52 : zeroAV Try.prog 52 = some (.v .nilFunc) := by kernel_rfl
theorem ti53 : tyInfo Try.prog 53 = some (false, 1) := by kernel_rfl
theorem zi53 : zeroAV Try.prog 53 = some (.v (.int .u64 0)) := by kernel_rfl
theorem un53 : Program.underlying Try.prog 53 = some (.int .u64) := by kernel_rfl
theorem ti54 : tyInfo Try.prog 54 = some (false, 1) := by kernel_rfl
theorem zi54 : zeroAV Try.prog 54 = some (.v .nilFunc) := by kernel_rfl
theorem ti55 : tyInfo Try.prog 55 = some (false, 1) := by kernel_rfl
theorem zi55 : zeroAV Try.prog 55 = some (.v .nilFunc) := by kernel_rfl
theorem ti56 : tyInfo Try.prog 56 = some (false, 1) := by kernel_rfl
theorem zi56 : zeroAV Try.prog 56 = some (.v .nilFunc) := by kernel_rfl
theorem ti57 : tyInfo Try.prog 57 = some (false, 1) := by kernel_rfl
theorem zi57 : zeroAV Try.prog 57 = some (.v .nilFunc) := by kernel_rfl
theorem ti58 : tyInfo Try.prog 58 = some (true, 4) := by kernel_rfl
theorem fi58_0 : fieldInfo Try.prog 58 0 = some (0, 17) := by kernel_rfl
theorem fi58_1 : fieldInfo Try.prog 58 1 = some (1, 17) := by kernel_rfl
theorem fi58_2 : fieldInfo Try.prog 58 2 = some (2, 17) := by kernel_rfl
theorem fi58_3 : fieldInfo Try.prog 58 3 = some (3, 9) := by kernel_rfl
theorem zi58 : zeroAV Try.prog 58 = some (.agg [.v (.pointer none), .v (.pointer none), .v (.pointer none), .v (.string ⟨#[]⟩)]) := by kernel_rfl
theorem sp58 : structPlaces Try.prog 58 = some [(0, 1), (1, 1), (2, 1), (3, 1)] := by kernel_rfl
theorem ti60 : tyInfo Try.prog 60 = some (true, 0) := by kernel_rfl
theorem zi60 : zeroAV Try.prog 60 = some (.agg []) := by kernel_rfl
theorem ti61 : tyInfo Try.prog 61 = some (true, 0) := by kernel_rfl
theorem zi61 : zeroAV Try.prog 61 = some (.agg []) := by kernel_rfl
theorem sp61 : structPlaces Try.prog 61 = some [(0, 0)] := by kernel_rfl
theorem ti63 : tyInfo Try.prog 63 = some (false, 1) := by kernel_rfl
theorem zi63 : zeroAV Try.prog 63 = some (.v .nilFunc) := by kernel_rfl
theorem ti64 : tyInfo Try.prog 64 = some (false, 1) := by kernel_rfl
theorem zi64 : zeroAV Try.prog 64 = some (.v (.int .u32 0)) := by kernel_rfl
theorem un64 : Program.underlying Try.prog 64 = some (.int .u32) := by kernel_rfl
theorem ti67 : tyInfo Try.prog 67 = some (false, 1) := by kernel_rfl
theorem zi67 : zeroAV Try.prog 67 = some (.v .nilFunc) := by kernel_rfl
theorem ti68 : tyInfo Try.prog 68 = some (false, 1) := by kernel_rfl
theorem zi68 : zeroAV Try.prog 68 = some (.v (.pointer none)) := by kernel_rfl
theorem un68 : Program.underlying Try.prog 68 = some (.pointer 5) := by kernel_rfl
theorem ti71 : tyInfo Try.prog 71 = some (true, 11) := by kernel_rfl
theorem fi71_0 : fieldInfo Try.prog 71 0 = some (0, 12) := by kernel_rfl
theorem fi71_1 : fieldInfo Try.prog 71 1 = some (1, 12) := by kernel_rfl
theorem fi71_2 : fieldInfo Try.prog 71 2 = some (2, 64) := by kernel_rfl
theorem fi71_3 : fieldInfo Try.prog 71 3 = some (3, 65) := by kernel_rfl
theorem fi71_4 : fieldInfo Try.prog 71 4 = some (4, 5) := by kernel_rfl
theorem fi71_5 : fieldInfo Try.prog 71 5 = some (5, 5) := by kernel_rfl
theorem fi71_6 : fieldInfo Try.prog 71 6 = some (6, 66) := by kernel_rfl
theorem fi71_7 : fieldInfo Try.prog 71 7 = some (7, 67) := by kernel_rfl
theorem fi71_8 : fieldInfo Try.prog 71 8 = some (8, 68) := by kernel_rfl
theorem fi71_9 : fieldInfo Try.prog 71 9 = some (9, 69) := by kernel_rfl
theorem fi71_10 : fieldInfo Try.prog 71 10 = some (10, 70) := by kernel_rfl
theorem zi71 : zeroAV Try.prog 71 = some (.agg [.v (.int .u64 0), .v (.int .u64 0), .v (.int .u32 0), .v (.int .u8 0), .v (.int .u8 0), .v (.int .u8 0), .v (.int .u8 0), .v .nilFunc, .v (.pointer none), .v (.int .i32 0), .v (.int .i32 0)]) := by kernel_rfl
theorem sp71 : structPlaces Try.prog 71 = some [(0, 1), (1, 1), (2, 1), (3, 1), (4, 1), (5, 1), (6, 1), (7, 1), (8, 1), (9, 1), (10, 1)] := by kernel_rfl
theorem ti73 : tyInfo Try.prog 73 = some (false, 1) := by kernel_rfl
theorem zi73 : zeroAV Try.prog 73 = some (.v (.pointer none)) := by kernel_rfl
theorem mixed : Try.prog.follows .mixedOrders = true := by kernel_rfl
end Go.Proofs.Ytdjkaapmaonegaa.Ab
