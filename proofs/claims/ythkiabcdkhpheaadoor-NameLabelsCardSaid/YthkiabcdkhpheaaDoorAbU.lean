/-
  What the translation says of its types, each by the kernel.
-/
import Derived.Test.YthkiabcdkhpheaaDoorAbThree
import Derived.Test.YthkiabcdkhpheaaDoorProg
import Derived.KernelRfl
namespace Go.Proofs.YthkiabcdkhpheaaDoor.Ab
open Go.Proofs
theorem ti0 : tyInfo Tryd.prog 0 = some (false, 1) := by kernel_rfl
theorem zi0 : zeroAV Tryd.prog 0 = some (.v (.tuple #[])) := by kernel_rfl
theorem ti1 : tyInfo Tryd.prog 1 = some (false, 1) := by kernel_rfl
theorem zi1 : zeroAV Tryd.prog 1 = some (.v .nilFunc) := by kernel_rfl
theorem ti2 : tyInfo Tryd.prog 2 = some (false, 1) := by kernel_rfl
theorem zi2 : zeroAV Tryd.prog 2 = some (.v (.int .i64 0)) := by kernel_rfl
theorem un2 : Program.underlying Tryd.prog 2 = some (.int .i64) := by kernel_rfl
theorem ti3 : tyInfo Tryd.prog 3 = some (false, 1) := by kernel_rfl
theorem zi3 : zeroAV Tryd.prog 3 = some (.v (.int .i64 0)) := by kernel_rfl
theorem un3 : Program.underlying Tryd.prog 3 = some (.int .i64) := by kernel_rfl
theorem ti4 : tyInfo Tryd.prog 4 = some (false, 1) := by kernel_rfl
theorem zi4 : zeroAV Tryd.prog 4 = some (.v (.bool false)) := by kernel_rfl
theorem un4 : Program.underlying Tryd.prog 4 = some .bool := by kernel_rfl
theorem ti5 : tyInfo Tryd.prog 5 = some (false, 1) := by kernel_rfl
theorem zi5 : zeroAV Tryd.prog 5 = some (.v (.int .u8 0)) := by kernel_rfl
theorem un5 : Program.underlying Tryd.prog 5 = some (.int .u8) := by kernel_rfl
theorem ti7 : tyInfo Tryd.prog 7 = some (true, 4) := by kernel_rfl
theorem fi7_0 : fieldInfo Tryd.prog 7 0 = some (0, 2) := by kernel_rfl
theorem fi7_1 : fieldInfo Tryd.prog 7 1 = some (1, 3) := by kernel_rfl
theorem fi7_2 : fieldInfo Tryd.prog 7 2 = some (2, 4) := by kernel_rfl
theorem fi7_3 : fieldInfo Tryd.prog 7 3 = some (3, 6) := by kernel_rfl
theorem zi7 : zeroAV Tryd.prog 7 = some (.agg [.v (.int .i64 0), .v (.int .i64 0), .v (.bool false), .v (.int .u8 0)]) := by kernel_rfl
theorem sp7 : structPlaces Tryd.prog 7 = some [(0, 1), (1, 1), (2, 1), (3, 1)] := by kernel_rfl
theorem ti9 : tyInfo Tryd.prog 9 = some (false, 1) := by kernel_rfl
theorem ei9 : elemInfo Tryd.prog 9 = none := by kernel_rfl
theorem zi9 : zeroAV Tryd.prog 9 = some (.v (.string ⟨#[]⟩)) := by kernel_rfl
theorem un9 : Program.underlying Tryd.prog 9 = some .string := by kernel_rfl
theorem ti13 : tyInfo Tryd.prog 13 = some (true, 2) := by kernel_rfl
theorem fi13_0 : fieldInfo Tryd.prog 13 0 = some (0, 9) := by kernel_rfl
theorem fi13_1 : fieldInfo Tryd.prog 13 1 = some (1, 12) := by kernel_rfl
theorem zi13 : zeroAV Tryd.prog 13 = some (.agg [.v (.string ⟨#[]⟩), .v (.int .u64 0)]) := by kernel_rfl
theorem sp13 : structPlaces Tryd.prog 13 = some [(0, 1), (1, 1)] := by kernel_rfl
theorem ti18 : tyInfo Tryd.prog 18 = some (true, 1) := by kernel_rfl
theorem fi18_0 : fieldInfo Tryd.prog 18 0 = some (0, 17) := by kernel_rfl
theorem zi18 : zeroAV Tryd.prog 18 = some (.agg [.v (.pointer none)]) := by kernel_rfl
theorem sp18 : structPlaces Tryd.prog 18 = some [(0, 1)] := by kernel_rfl
theorem ti20 : tyInfo Tryd.prog 20 = some (false, 1) := by kernel_rfl
theorem zi20 : zeroAV Tryd.prog 20 = some (.v .nilIface) := by kernel_rfl
theorem ti21 : tyInfo Tryd.prog 21 = some (false, 1) := by kernel_rfl
theorem zi21 : zeroAV Tryd.prog 21 = some (.v (.int .i32 0)) := by kernel_rfl
theorem un21 : Program.underlying Tryd.prog 21 = some (.int .i32) := by kernel_rfl
theorem ti22 : tyInfo Tryd.prog 22 = some (false, 1) := by kernel_rfl
theorem zi22 : zeroAV Tryd.prog 22 = some (.v .nilFunc) := by kernel_rfl
theorem ti23 : tyInfo Tryd.prog 23 = some (false, 1) := by kernel_rfl
theorem zi23 : zeroAV Tryd.prog 23 = some (.v .nilFunc) := by kernel_rfl
theorem ti24 : tyInfo Tryd.prog 24 = some (false, 1) := by kernel_rfl
theorem zi24 : zeroAV Tryd.prog 24 = some (.v .nilFunc) := by kernel_rfl
theorem ti25 : tyInfo Tryd.prog 25 = some (false, 1) := by kernel_rfl
theorem ti26 : tyInfo Tryd.prog 26 = some (false, 1) := by kernel_rfl
theorem zi26 : zeroAV Tryd.prog 26 = some (.v .nilFunc) := by kernel_rfl
theorem ti27 : tyInfo Tryd.prog 27 = some (false, 1) := by kernel_rfl
theorem zi27 : zeroAV Tryd.prog 27 = some (.v .nilFunc) := by kernel_rfl
theorem ti28 : tyInfo Tryd.prog 28 = some (false, 1) := by kernel_rfl
theorem ei28 : elemInfo Tryd.prog 28 = some (5, 1) := by kernel_rfl
theorem ai28 : appInfo Tryd.prog 28 28 = some ⟨5, 1, 1⟩ := by kernel_rfl
theorem zi28 : zeroAV Tryd.prog 28 = some (.v (.slice none 0 0)) := by kernel_rfl
theorem un28 : Program.underlying Tryd.prog 28 = some (.slice 5) := by kernel_rfl
theorem ti29 : tyInfo Tryd.prog 29 = some (false, 1) := by kernel_rfl
theorem zi29 : zeroAV Tryd.prog 29 = some (.v .nilFunc) := by kernel_rfl
theorem ti30 : tyInfo Tryd.prog 30 = some (false, 1) := by kernel_rfl
theorem zi30 : zeroAV Tryd.prog 30 = some (.v (.int .u8 0)) := by kernel_rfl
theorem un30 : Program.underlying Tryd.prog 30 = some (.int .u8) := by kernel_rfl
theorem ti31 : tyInfo Tryd.prog 31 = some (false, 1) := by kernel_rfl
theorem zi31 : zeroAV Tryd.prog 31 = some (.v .nilFunc) := by kernel_rfl
theorem ti32 : tyInfo Tryd.prog 32 = some (false, 1) := by kernel_rfl
theorem zi32 : zeroAV Tryd.prog 32 = some (.v .nilFunc) := by kernel_rfl
theorem ti33 : tyInfo Tryd.prog 33 = some (false, 1) := by kernel_rfl
theorem ti34 : tyInfo Tryd.prog 34 = some (false, 1) := by kernel_rfl
theorem zi34 : zeroAV Tryd.prog 34 = some (.v .nilFunc) := by kernel_rfl
theorem ti35 : tyInfo Tryd.prog 35 = some (false, 1) := by kernel_rfl
theorem zi35 : zeroAV Tryd.prog 35 = some (.v .nilIface) := by kernel_rfl
theorem ti36 : tyInfo Tryd.prog 36 = some (false, 1) := by kernel_rfl
theorem zi36 : zeroAV Tryd.prog 36 = some (.v .nilIface) := by kernel_rfl
theorem ti37 : tyInfo Tryd.prog 37 = some (false, 1) := by kernel_rfl
theorem ti38 : tyInfo Tryd.prog 38 = some (false, 1) := by kernel_rfl
theorem zi38 : zeroAV Tryd.prog 38 = some (.v .nilFunc) := by kernel_rfl
theorem ti39 : tyInfo Tryd.prog 39 = some (false, 1) := by kernel_rfl
theorem zi39 : zeroAV Tryd.prog 39 = some (.v .nilFunc) := by kernel_rfl
theorem ti40 : tyInfo Tryd.prog 40 = some (false, 1) := by kernel_rfl
theorem zi40 : zeroAV Tryd.prog 40 = some (.v .nilFunc) := by kernel_rfl
theorem ti41 : tyInfo Tryd.prog 41 = some (false, 1) := by kernel_rfl
theorem zi41 : zeroAV Tryd.prog 41 = some (.v .nilFunc) := by kernel_rfl
theorem ti42 : tyInfo Tryd.prog 42 = some (false, 1) := by kernel_rfl
theorem zi42 : zeroAV Tryd.prog 42 = some (.v .nilFunc) := by kernel_rfl
theorem ti43 : tyInfo Tryd.prog 43 = some (false, 1) := by kernel_rfl
theorem zi43 : zeroAV Tryd.prog 43 = some (.v .nilFunc) := by kernel_rfl
theorem ti44 : tyInfo Tryd.prog 44 = some (false, 1) := by kernel_rfl
theorem zi44 : zeroAV Tryd.prog 44 = some (.v .nilFunc) := by kernel_rfl
theorem ti45 : tyInfo Tryd.prog 45 = some (false, 1) := by kernel_rfl
theorem zi45 : zeroAV Tryd.prog 45 = some (.v .nilFunc) := by kernel_rfl
theorem ti46 : tyInfo Tryd.prog 46 = some (false, 1) := by kernel_rfl
theorem zi46 : zeroAV Tryd.prog 46 = some (.v (.int .i64 0)) := by kernel_rfl
theorem un46 : Program.underlying Tryd.prog 46 = some (.int .i64) := by kernel_rfl
theorem ti47 : tyInfo Tryd.prog 47 = some (false, 1) := by kernel_rfl
theorem ti48 : tyInfo Tryd.prog 48 = some (false, 1) := by kernel_rfl
theorem zi48 : zeroAV Tryd.prog 48 = some (.v .nilFunc) := by kernel_rfl
theorem ti49 : tyInfo Tryd.prog 49 = some (false, 1) := by kernel_rfl
theorem zi49 : zeroAV Tryd.prog 49 = some (.v (.pointer none)) := by kernel_rfl
theorem un49 : Program.underlying Tryd.prog 49 = some (.pointer 65) := by kernel_rfl
theorem ti50 : tyInfo Tryd.prog 50 = some (false, 1) := by kernel_rfl
theorem zi50 : zeroAV Tryd.prog 50 = some (.v .nilFunc) := by kernel_rfl
theorem ti51 : tyInfo Tryd.prog 51 = some (false, 1) := by kernel_rfl
theorem zi51 : zeroAV Tryd.prog 51 = some (.v .nilFunc) := by kernel_rfl
theorem ti52 : tyInfo Tryd.prog 52 = some (false, 1) := by kernel_rfl
theorem zi52 : zeroAV Tryd.prog 52 = some (.v .nilFunc) := by kernel_rfl
theorem ti53 : tyInfo Tryd.prog 53 = some (false, 1) := by kernel_rfl
theorem zi53 : zeroAV Tryd.prog 53 = some (.v .nilFunc) := by kernel_rfl
theorem ti54 : tyInfo Tryd.prog 54 = some (false, 1) := by kernel_rfl
theorem zi54 : zeroAV Tryd.prog 54 = some (.v (.int .u64 0)) := by kernel_rfl
theorem un54 : Program.underlying Tryd.prog 54 = some (.int .u64) := by kernel_rfl
theorem ti55 : tyInfo Tryd.prog 55 = some (true, 24) := by kernel_rfl
theorem zi55 : zeroAV Tryd.prog 55 = some (.agg [.v (.int .u8 0), .v (.int .u8 0), .v (.int .u8 0), .v (.int .u8 0), .v (.int .u8 0), .v (.int .u8 0), .v (.int .u8 0), .v (.int .u8 0), .v (.int .u8 0), .v (.int .u8 0), .v (.int .u8 0), .v (.int .u8 0), .v (.int .u8 0), .v (.int .u8 0), .v (.int .u8 0), .v (.int .u8 0), .v (.int .u8 0), .v (.int .u8 0), .v (.int .u8 0), .v (.int .u8 0), .v (.int .u8 0), .v (.int .u8 0), .v (.int .u8 0), .v (.int .u8 0)]) := by kernel_rfl
theorem ti56 : tyInfo Tryd.prog 56 = some (false, 1) := by kernel_rfl
theorem zi56 : zeroAV Tryd.prog 56 = some (.v (.int .u64 0)) := by kernel_rfl
theorem un56 : Program.underlying Tryd.prog 56 = some (.int .u64) := by kernel_rfl
theorem ti57 : tyInfo Tryd.prog 57 = some (false, 1) := by kernel_rfl
theorem zi57 : zeroAV Tryd.prog 57 = some (.v .nilFunc) := by kernel_rfl
theorem ti58 : tyInfo Tryd.prog 58 = some (false, 1) := by kernel_rfl
theorem zi58 : zeroAV Tryd.prog 58 = some (.v .nilFunc) := by kernel_rfl
theorem ti59 : tyInfo Tryd.prog 59 = some (false, 1) := by kernel_rfl
theorem ti60 : tyInfo Tryd.prog 60 = some (false, 1) := by kernel_rfl
theorem zi60 : zeroAV Tryd.prog 60 = some (.v .nilFunc) := by kernel_rfl
theorem ti61 : tyInfo Tryd.prog 61 = some (false, 1) := by kernel_rfl
theorem ti62 : tyInfo Tryd.prog 62 = some (false, 1) := by kernel_rfl
theorem zi62 : zeroAV Tryd.prog 62 = some (.v .nilFunc) := by kernel_rfl
theorem ti63 : tyInfo Tryd.prog 63 = some (false, 1) := by kernel_rfl
theorem zi63 : zeroAV Tryd.prog 63 = some (.v .nilFunc) := by kernel_rfl
theorem ti64 : tyInfo Tryd.prog 64 = some (true, 3) := by kernel_rfl
theorem fi64_0 : fieldInfo Tryd.prog 64 0 = some (0, 9) := by kernel_rfl
theorem fi64_1 : fieldInfo Tryd.prog 64 1 = some (1, 9) := by kernel_rfl
theorem fi64_2 : fieldInfo Tryd.prog 64 2 = some (2, 36) := by kernel_rfl
theorem zi64 : zeroAV Tryd.prog 64 = some (.agg [.v (.string ⟨#[]⟩), .v (.string ⟨#[]⟩), .v .nilIface]) := by kernel_rfl
theorem sp64 : structPlaces Tryd.prog 64 = some [(0, 1), (1, 1), (2, 1)] := by kernel_rfl
theorem ti65 : tyInfo Tryd.prog 65 = some (true, 3) := by kernel_rfl
theorem fi65_0 : fieldInfo Tryd.prog 65 0 = some (0, 9) := by kernel_rfl
theorem fi65_1 : fieldInfo Tryd.prog 65 1 = some (1, 9) := by kernel_rfl
theorem fi65_2 : fieldInfo Tryd.prog 65 2 = some (2, 36) := by kernel_rfl
theorem zi65 : zeroAV Tryd.prog 65 = some (.agg [.v (.string ⟨#[]⟩), .v (.string ⟨#[]⟩), .v .nilIface]) := by kernel_rfl
theorem sp65 : structPlaces Tryd.prog 65 = some [(0, 1), (1, 1), (2, 1)] := by kernel_rfl
theorem ti66 : tyInfo Tryd.prog 66 = some (false, 1) := by kernel_rfl
theorem zi66 : zeroAV Tryd.prog 66 = some (.v .nilFunc) := by kernel_rfl
theorem ti67 : tyInfo Tryd.prog 67 = some (false, 1) := by kernel_rfl
theorem zi67 : zeroAV Tryd.prog 67 = some (.v (.int .u32 0)) := by kernel_rfl
theorem un67 : Program.underlying Tryd.prog 67 = some (.int .u32) := by kernel_rfl
theorem ti68 : tyInfo Tryd.prog 68 = some (false, 1) := by kernel_rfl
theorem ti69 : tyInfo Tryd.prog 69 = some (false, 1) := by kernel_rfl
theorem zi69 : zeroAV Tryd.prog 69 = some (.v .nilFunc) := by kernel_rfl
theorem ti70 : tyInfo Tryd.prog 70 = some (false, 1) := by kernel_rfl
theorem zi70 : zeroAV Tryd.prog 70 = some (.v .nilFunc) := by kernel_rfl
theorem ti71 : tyInfo Tryd.prog 71 = some (true, 20) := by kernel_rfl
theorem zi71 : zeroAV Tryd.prog 71 = some (.agg [.v (.int .u64 0), .v (.int .u64 0), .v (.int .u64 0), .v (.int .u64 0), .v (.int .u64 0), .v (.int .u64 0), .v (.int .u64 0), .v (.int .u64 0), .v (.int .u64 0), .v (.int .u64 0), .v (.int .u64 0), .v (.int .u64 0), .v (.int .u64 0), .v (.int .u64 0), .v (.int .u64 0), .v (.int .u64 0), .v (.int .u64 0), .v (.int .u64 0), .v (.int .u64 0), .v (.int .u64 0)]) := by kernel_rfl
theorem ti72 : tyInfo Tryd.prog 72 = some (true, 65) := by kernel_rfl
theorem zi72 : zeroAV Tryd.prog 72 = some (.agg [.v (.int .u8 0), .v (.int .u8 0), .v (.int .u8 0), .v (.int .u8 0), .v (.int .u8 0), .v (.int .u8 0), .v (.int .u8 0), .v (.int .u8 0), .v (.int .u8 0), .v (.int .u8 0), .v (.int .u8 0), .v (.int .u8 0), .v (.int .u8 0), .v (.int .u8 0), .v (.int .u8 0), .v (.int .u8 0), .v (.int .u8 0), .v (.int .u8 0), .v (.int .u8 0), .v (.int .u8 0), .v (.int .u8 0), .v (.int .u8 0), .v (.int .u8 0), .v (.int .u8 0), .v (.int .u8 0), .v (.int .u8 0), .v (.int .u8 0), .v (.int .u8 0), .v (.int .u8 0), .v (.int .u8 0), .v (.int .u8 0), .v (.int .u8 0), .v (.int .u8 0), .v (.int .u8 0), .v (.int .u8 0), .v (.int .u8 0), .v (.int .u8 0), .v (.int .u8 0), .v (.int .u8 0), .v (.int .u8 0), .v (.int .u8 0), .v (.int .u8 0), .v (.int .u8 0), .v (.int .u8 0), .v (.int .u8 0), .v (.int .u8 0), .v (.int .u8 0), .v (.int .u8 0), .v (.int .u8 0), .v (.int .u8 0), .v (.int .u8 0), .v (.int .u8 0), .v (.int .u8 0), .v (.int .u8 0), .v (.int .u8 0), .v (.int .u8 0), .v (.int .u8 0), .v (.int .u8 0), .v (.int .u8 0), .v (.int .u8 0), .v (.int .u8 0), .v (.int .u8 0), .v (.int .u8 0), .v (.int .u8 0), .v (.int .u8 0)]) := by kernel_rfl
theorem ti73 : tyInfo Tryd.prog 73 = some (false, 1) := by kernel_rfl
theorem zi73 : zeroAV Tryd.prog 73 = some (.v .nilFunc) := by kernel_rfl
theorem ti74 : tyInfo Tryd.prog 74 = some (false, 1) := by kernel_rfl
theorem zi74 : zeroAV Tryd.prog 74 = some (.v .nilFunc) := by kernel_rfl
theorem ti75 : tyInfo Tryd.prog 75 = some (false, 1) := by kernel_rfl
theorem zi75 : zeroAV Tryd.prog 75 = some (.v (.pointer none)) := by kernel_rfl
theorem un75 : Program.underlying Tryd.prog 75 = some (.pointer 5) := by kernel_rfl
theorem ti76 : tyInfo Tryd.prog 76 = some (false, 1) := by kernel_rfl
theorem zi76 : zeroAV Tryd.prog 76 = some (.v (.pointer none)) := by kernel_rfl
theorem un76 : Program.underlying Tryd.prog 76 = some (.pointer 78) := by kernel_rfl
theorem ti77 : tyInfo Tryd.prog 77 = some (true, 1) := by kernel_rfl
theorem fi77_0 : fieldInfo Tryd.prog 77 0 = some (0, 9) := by kernel_rfl
theorem zi77 : zeroAV Tryd.prog 77 = some (.agg [.v (.string ⟨#[]⟩)]) := by kernel_rfl
theorem sp77 : structPlaces Tryd.prog 77 = some [(0, 1)] := by kernel_rfl
theorem ti78 : tyInfo Tryd.prog 78 = some (true, 1) := by kernel_rfl
theorem fi78_0 : fieldInfo Tryd.prog 78 0 = some (0, 9) := by kernel_rfl
theorem zi78 : zeroAV Tryd.prog 78 = some (.agg [.v (.string ⟨#[]⟩)]) := by kernel_rfl
theorem sp78 : structPlaces Tryd.prog 78 = some [(0, 1)] := by kernel_rfl
theorem ti79 : tyInfo Tryd.prog 79 = some (false, 1) := by kernel_rfl
theorem zi79 : zeroAV Tryd.prog 79 = some (.v .nilFunc) := by kernel_rfl
theorem ti80 : tyInfo Tryd.prog 80 = some (true, 32) := by kernel_rfl
theorem zi80 : zeroAV Tryd.prog 80 = some (.agg [.v (.int .u8 0), .v (.int .u8 0), .v (.int .u8 0), .v (.int .u8 0), .v (.int .u8 0), .v (.int .u8 0), .v (.int .u8 0), .v (.int .u8 0), .v (.int .u8 0), .v (.int .u8 0), .v (.int .u8 0), .v (.int .u8 0), .v (.int .u8 0), .v (.int .u8 0), .v (.int .u8 0), .v (.int .u8 0), .v (.int .u8 0), .v (.int .u8 0), .v (.int .u8 0), .v (.int .u8 0), .v (.int .u8 0), .v (.int .u8 0), .v (.int .u8 0), .v (.int .u8 0), .v (.int .u8 0), .v (.int .u8 0), .v (.int .u8 0), .v (.int .u8 0), .v (.int .u8 0), .v (.int .u8 0), .v (.int .u8 0), .v (.int .u8 0)]) := by kernel_rfl
theorem ti81 : tyInfo Tryd.prog 81 = some (true, 64) := by kernel_rfl
theorem zi81 : zeroAV Tryd.prog 81 = some (.agg [.v (.int .u8 0), .v (.int .u8 0), .v (.int .u8 0), .v (.int .u8 0), .v (.int .u8 0), .v (.int .u8 0), .v (.int .u8 0), .v (.int .u8 0), .v (.int .u8 0), .v (.int .u8 0), .v (.int .u8 0), .v (.int .u8 0), .v (.int .u8 0), .v (.int .u8 0), .v (.int .u8 0), .v (.int .u8 0), .v (.int .u8 0), .v (.int .u8 0), .v (.int .u8 0), .v (.int .u8 0), .v (.int .u8 0), .v (.int .u8 0), .v (.int .u8 0), .v (.int .u8 0), .v (.int .u8 0), .v (.int .u8 0), .v (.int .u8 0), .v (.int .u8 0), .v (.int .u8 0), .v (.int .u8 0), .v (.int .u8 0), .v (.int .u8 0), .v (.int .u8 0), .v (.int .u8 0), .v (.int .u8 0), .v (.int .u8 0), .v (.int .u8 0), .v (.int .u8 0), .v (.int .u8 0), .v (.int .u8 0), .v (.int .u8 0), .v (.int .u8 0), .v (.int .u8 0), .v (.int .u8 0), .v (.int .u8 0), .v (.int .u8 0), .v (.int .u8 0), .v (.int .u8 0), .v (.int .u8 0), .v (.int .u8 0), .v (.int .u8 0), .v (.int .u8 0), .v (.int .u8 0), .v (.int .u8 0), .v (.int .u8 0), .v (.int .u8 0), .v (.int .u8 0), .v (.int .u8 0), .v (.int .u8 0), .v (.int .u8 0), .v (.int .u8 0), .v (.int .u8 0), .v (.int .u8 0), .v (.int .u8 0)]) := by kernel_rfl
theorem ti82 : tyInfo Tryd.prog 82 = some (false, 1) := by kernel_rfl
theorem zi82 : zeroAV Tryd.prog 82 = some (.v .nilFunc) := by kernel_rfl
theorem ti83 : tyInfo Tryd.prog 83 = some (true, 4) := by kernel_rfl
theorem fi83_0 : fieldInfo Tryd.prog 83 0 = some (0, 17) := by kernel_rfl
theorem fi83_1 : fieldInfo Tryd.prog 83 1 = some (1, 17) := by kernel_rfl
theorem fi83_2 : fieldInfo Tryd.prog 83 2 = some (2, 17) := by kernel_rfl
theorem fi83_3 : fieldInfo Tryd.prog 83 3 = some (3, 9) := by kernel_rfl
theorem zi83 : zeroAV Tryd.prog 83 = some (.agg [.v (.pointer none), .v (.pointer none), .v (.pointer none), .v (.string ⟨#[]⟩)]) := by kernel_rfl
theorem sp83 : structPlaces Tryd.prog 83 = some [(0, 1), (1, 1), (2, 1), (3, 1)] := by kernel_rfl
theorem ti85 : tyInfo Tryd.prog 85 = some (true, 0) := by kernel_rfl
theorem zi85 : zeroAV Tryd.prog 85 = some (.agg []) := by kernel_rfl
theorem ti86 : tyInfo Tryd.prog 86 = some (true, 0) := by kernel_rfl
theorem zi86 : zeroAV Tryd.prog 86 = some (.agg []) := by kernel_rfl
theorem sp86 : structPlaces Tryd.prog 86 = some [(0, 0)] := by kernel_rfl
theorem ti88 : tyInfo Tryd.prog 88 = some (false, 1) := by kernel_rfl
theorem zi88 : zeroAV Tryd.prog 88 = some (.v .nilFunc) := by kernel_rfl
theorem ti91 : tyInfo Tryd.prog 91 = some (false, 1) := by kernel_rfl
theorem zi91 : zeroAV Tryd.prog 91 = some (.v .nilFunc) := by kernel_rfl
theorem ti94 : tyInfo Tryd.prog 94 = some (true, 11) := by kernel_rfl
theorem fi94_0 : fieldInfo Tryd.prog 94 0 = some (0, 12) := by kernel_rfl
theorem fi94_1 : fieldInfo Tryd.prog 94 1 = some (1, 12) := by kernel_rfl
theorem fi94_2 : fieldInfo Tryd.prog 94 2 = some (2, 67) := by kernel_rfl
theorem fi94_3 : fieldInfo Tryd.prog 94 3 = some (3, 89) := by kernel_rfl
theorem fi94_4 : fieldInfo Tryd.prog 94 4 = some (4, 5) := by kernel_rfl
theorem fi94_5 : fieldInfo Tryd.prog 94 5 = some (5, 5) := by kernel_rfl
theorem fi94_6 : fieldInfo Tryd.prog 94 6 = some (6, 90) := by kernel_rfl
theorem fi94_7 : fieldInfo Tryd.prog 94 7 = some (7, 91) := by kernel_rfl
theorem fi94_8 : fieldInfo Tryd.prog 94 8 = some (8, 75) := by kernel_rfl
theorem fi94_9 : fieldInfo Tryd.prog 94 9 = some (9, 92) := by kernel_rfl
theorem fi94_10 : fieldInfo Tryd.prog 94 10 = some (10, 93) := by kernel_rfl
theorem zi94 : zeroAV Tryd.prog 94 = some (.agg [.v (.int .u64 0), .v (.int .u64 0), .v (.int .u32 0), .v (.int .u8 0), .v (.int .u8 0), .v (.int .u8 0), .v (.int .u8 0), .v .nilFunc, .v (.pointer none), .v (.int .i32 0), .v (.int .i32 0)]) := by kernel_rfl
theorem sp94 : structPlaces Tryd.prog 94 = some [(0, 1), (1, 1), (2, 1), (3, 1), (4, 1), (5, 1), (6, 1), (7, 1), (8, 1), (9, 1), (10, 1)] := by kernel_rfl
theorem ti96 : tyInfo Tryd.prog 96 = some (false, 1) := by kernel_rfl
theorem zi96 : zeroAV Tryd.prog 96 = some (.v (.pointer none)) := by kernel_rfl
theorem mixed : Tryd.prog.follows .mixedOrders = true := by kernel_rfl
end Go.Proofs.YthkiabcdkhpheaaDoor.Ab
