/-
  What the translation says of its types, each by the kernel.
-/
import Derived.Test.YtoccpldnegloaaaAbThree
import Derived.Test.YtoccpldnegloaaaProg
import Derived.KernelRfl
namespace Go.Proofs.Ytoccpldnegloaaa.Ab
open Go.Proofs
theorem ti0 : tyInfo Try.prog 0 = some (false, 1) := by kernel_rfl
theorem zi0 : zeroAV Try.prog 0 = some (.v (.tuple #[])) := by kernel_rfl
theorem ti1 : tyInfo Try.prog 1 = some (false, 1) := by kernel_rfl
theorem zi1 : zeroAV Try.prog 1 = some (.v .nilFunc) := by kernel_rfl
theorem ti2 : tyInfo Try.prog 2 = some (false, 1) := by kernel_rfl
theorem zi2 : zeroAV Try.prog 2 = some (.v (.int .i64 0)) := by kernel_rfl
theorem un2 : Program.underlying Try.prog 2 = some (.int .i64) := by kernel_rfl
theorem ti3 : tyInfo Try.prog 3 = some (false, 1) := by kernel_rfl
theorem zi3 : zeroAV Try.prog 3 = some (.v (.int .i64 0)) := by kernel_rfl
theorem un3 : Program.underlying Try.prog 3 = some (.int .i64) := by kernel_rfl
theorem ti4 : tyInfo Try.prog 4 = some (false, 1) := by kernel_rfl
theorem zi4 : zeroAV Try.prog 4 = some (.v (.bool false)) := by kernel_rfl
theorem un4 : Program.underlying Try.prog 4 = some .bool := by kernel_rfl
theorem ti5 : tyInfo Try.prog 5 = some (false, 1) := by kernel_rfl
theorem zi5 : zeroAV Try.prog 5 = some (.v (.int .u8 0)) := by kernel_rfl
theorem un5 : Program.underlying Try.prog 5 = some (.int .u8) := by kernel_rfl
theorem ti7 : tyInfo Try.prog 7 = some (true, 4) := by kernel_rfl
theorem fi7_0 : fieldInfo Try.prog 7 0 = some (0, 2) := by kernel_rfl
theorem fi7_1 : fieldInfo Try.prog 7 1 = some (1, 3) := by kernel_rfl
theorem fi7_2 : fieldInfo Try.prog 7 2 = some (2, 4) := by kernel_rfl
theorem fi7_3 : fieldInfo Try.prog 7 3 = some (3, 6) := by kernel_rfl
theorem zi7 : zeroAV Try.prog 7 = some (.agg [.v (.int .i64 0), .v (.int .i64 0), .v (.bool false), .v (.int .u8 0)]) := by kernel_rfl
theorem sp7 : structPlaces Try.prog 7 = some [(0, 1), (1, 1), (2, 1), (3, 1)] := by kernel_rfl
theorem ti9 : tyInfo Try.prog 9 = some (false, 1) := by kernel_rfl
theorem ei9 : elemInfo Try.prog 9 = none := by kernel_rfl
theorem zi9 : zeroAV Try.prog 9 = some (.v (.string ⟨#[]⟩)) := by kernel_rfl
theorem un9 : Program.underlying Try.prog 9 = some .string := by kernel_rfl
theorem ti13 : tyInfo Try.prog 13 = some (true, 2) := by kernel_rfl
theorem fi13_0 : fieldInfo Try.prog 13 0 = some (0, 9) := by kernel_rfl
theorem fi13_1 : fieldInfo Try.prog 13 1 = some (1, 12) := by kernel_rfl
theorem zi13 : zeroAV Try.prog 13 = some (.agg [.v (.string ⟨#[]⟩), .v (.int .u64 0)]) := by kernel_rfl
theorem sp13 : structPlaces Try.prog 13 = some [(0, 1), (1, 1)] := by kernel_rfl
theorem ti18 : tyInfo Try.prog 18 = some (true, 1) := by kernel_rfl
theorem fi18_0 : fieldInfo Try.prog 18 0 = some (0, 17) := by kernel_rfl
theorem zi18 : zeroAV Try.prog 18 = some (.agg [.v (.pointer none)]) := by kernel_rfl
theorem sp18 : structPlaces Try.prog 18 = some [(0, 1)] := by kernel_rfl
theorem ti20 : tyInfo Try.prog 20 = some (false, 1) := by kernel_rfl
theorem zi20 : zeroAV Try.prog 20 = some (.v .nilIface) := by kernel_rfl
theorem ti21 : tyInfo Try.prog 21 = some (false, 1) := by kernel_rfl
theorem zi21 : zeroAV Try.prog 21 = some (.v (.int .i32 0)) := by kernel_rfl
theorem un21 : Program.underlying Try.prog 21 = some (.int .i32) := by kernel_rfl
theorem ti22 : tyInfo Try.prog 22 = some (false, 1) := by kernel_rfl
theorem ei22 : elemInfo Try.prog 22 = some (98, 2) := by kernel_rfl
theorem ai22 : appInfo Try.prog 22 22 = some ⟨98, 2, 24⟩ := by kernel_rfl
theorem zi22 : zeroAV Try.prog 22 = some (.v (.slice none 0 0)) := by kernel_rfl
theorem un22 : Program.underlying Try.prog 22 = some (.slice 98) := by kernel_rfl
theorem ti23 : tyInfo Try.prog 23 = some (false, 1) := by kernel_rfl
theorem ei23 : elemInfo Try.prog 23 = some (36, 6) := by kernel_rfl
theorem ai23 : appInfo Try.prog 23 23 = some ⟨36, 6, 120⟩ := by kernel_rfl
theorem zi23 : zeroAV Try.prog 23 = some (.v (.slice none 0 0)) := by kernel_rfl
theorem un23 : Program.underlying Try.prog 23 = some (.slice 36) := by kernel_rfl
theorem ti24 : tyInfo Try.prog 24 = some (true, 2) := by kernel_rfl
theorem fi24_0 : fieldInfo Try.prog 24 0 = some (0, 22) := by kernel_rfl
theorem fi24_1 : fieldInfo Try.prog 24 1 = some (1, 23) := by kernel_rfl
theorem zi24 : zeroAV Try.prog 24 = some (.agg [.v (.slice none 0 0), .v (.slice none 0 0)]) := by kernel_rfl
theorem sp24 : structPlaces Try.prog 24 = some [(0, 1), (1, 1)] := by kernel_rfl
theorem ti25 : tyInfo Try.prog 25 = some (true, 2) := by kernel_rfl
theorem fi25_0 : fieldInfo Try.prog 25 0 = some (0, 22) := by kernel_rfl
theorem fi25_1 : fieldInfo Try.prog 25 1 = some (1, 23) := by kernel_rfl
theorem zi25 : zeroAV Try.prog 25 = some (.agg [.v (.slice none 0 0), .v (.slice none 0 0)]) := by kernel_rfl
theorem sp25 : structPlaces Try.prog 25 = some [(0, 1), (1, 1)] := by kernel_rfl
theorem ti26 : tyInfo Try.prog 26 = some (false, 1) := by kernel_rfl
theorem zi26 : zeroAV Try.prog 26 = some (.v .nilFunc) := by kernel_rfl
theorem ti27 : tyInfo Try.prog 27 = some (false, 1) := by kernel_rfl
theorem zi27 : zeroAV Try.prog 27 = some (.v .nilFunc) := by kernel_rfl
theorem ti28 : tyInfo Try.prog 28 = some (false, 1) := by kernel_rfl
theorem ei28 : elemInfo Try.prog 28 = some (3, 1) := by kernel_rfl
theorem ai28 : appInfo Try.prog 28 28 = some ⟨3, 1, 8⟩ := by kernel_rfl
theorem zi28 : zeroAV Try.prog 28 = some (.v (.slice none 0 0)) := by kernel_rfl
theorem un28 : Program.underlying Try.prog 28 = some (.slice 3) := by kernel_rfl
theorem ti29 : tyInfo Try.prog 29 = some (true, 3) := by kernel_rfl
theorem fi29_0 : fieldInfo Try.prog 29 0 = some (0, 9) := by kernel_rfl
theorem fi29_1 : fieldInfo Try.prog 29 1 = some (1, 3) := by kernel_rfl
theorem fi29_2 : fieldInfo Try.prog 29 2 = some (2, 28) := by kernel_rfl
theorem zi29 : zeroAV Try.prog 29 = some (.agg [.v (.string ⟨#[]⟩), .v (.int .i64 0), .v (.slice none 0 0)]) := by kernel_rfl
theorem sp29 : structPlaces Try.prog 29 = some [(0, 1), (1, 1), (2, 1)] := by kernel_rfl
theorem ti30 : tyInfo Try.prog 30 = some (true, 3) := by kernel_rfl
theorem fi30_0 : fieldInfo Try.prog 30 0 = some (0, 9) := by kernel_rfl
theorem fi30_1 : fieldInfo Try.prog 30 1 = some (1, 3) := by kernel_rfl
theorem fi30_2 : fieldInfo Try.prog 30 2 = some (2, 28) := by kernel_rfl
theorem zi30 : zeroAV Try.prog 30 = some (.agg [.v (.string ⟨#[]⟩), .v (.int .i64 0), .v (.slice none 0 0)]) := by kernel_rfl
theorem sp30 : structPlaces Try.prog 30 = some [(0, 1), (1, 1), (2, 1)] := by kernel_rfl
theorem ti31 : tyInfo Try.prog 31 = some (false, 1) := by kernel_rfl
theorem ti32 : tyInfo Try.prog 32 = some (false, 1) := by kernel_rfl
theorem zi32 : zeroAV Try.prog 32 = some (.v .nilFunc) := by kernel_rfl
theorem ti33 : tyInfo Try.prog 33 = some (false, 1) := by kernel_rfl
theorem ei33 : elemInfo Try.prog 33 = some (47, 2) := by kernel_rfl
theorem ai33 : appInfo Try.prog 33 33 = some ⟨47, 2, 40⟩ := by kernel_rfl
theorem zi33 : zeroAV Try.prog 33 = some (.v (.slice none 0 0)) := by kernel_rfl
theorem un33 : Program.underlying Try.prog 33 = some (.slice 47) := by kernel_rfl
theorem ti34 : tyInfo Try.prog 34 = some (false, 1) := by kernel_rfl
theorem ei34 : elemInfo Try.prog 34 = some (100, 3) := by kernel_rfl
theorem ai34 : appInfo Try.prog 34 34 = some ⟨100, 3, 48⟩ := by kernel_rfl
theorem zi34 : zeroAV Try.prog 34 = some (.v (.slice none 0 0)) := by kernel_rfl
theorem un34 : Program.underlying Try.prog 34 = some (.slice 100) := by kernel_rfl
theorem ti35 : tyInfo Try.prog 35 = some (true, 6) := by kernel_rfl
theorem fi35_0 : fieldInfo Try.prog 35 0 = some (0, 9) := by kernel_rfl
theorem fi35_1 : fieldInfo Try.prog 35 1 = some (1, 33) := by kernel_rfl
theorem fi35_2 : fieldInfo Try.prog 35 2 = some (2, 33) := by kernel_rfl
theorem fi35_3 : fieldInfo Try.prog 35 3 = some (3, 34) := by kernel_rfl
theorem fi35_4 : fieldInfo Try.prog 35 4 = some (4, 34) := by kernel_rfl
theorem fi35_5 : fieldInfo Try.prog 35 5 = some (5, 3) := by kernel_rfl
theorem zi35 : zeroAV Try.prog 35 = some (.agg [.v (.string ⟨#[]⟩), .v (.slice none 0 0), .v (.slice none 0 0), .v (.slice none 0 0), .v (.slice none 0 0), .v (.int .i64 0)]) := by kernel_rfl
theorem sp35 : structPlaces Try.prog 35 = some [(0, 1), (1, 1), (2, 1), (3, 1), (4, 1), (5, 1)] := by kernel_rfl
theorem ti36 : tyInfo Try.prog 36 = some (true, 6) := by kernel_rfl
theorem fi36_0 : fieldInfo Try.prog 36 0 = some (0, 9) := by kernel_rfl
theorem fi36_1 : fieldInfo Try.prog 36 1 = some (1, 33) := by kernel_rfl
theorem fi36_2 : fieldInfo Try.prog 36 2 = some (2, 33) := by kernel_rfl
theorem fi36_3 : fieldInfo Try.prog 36 3 = some (3, 34) := by kernel_rfl
theorem fi36_4 : fieldInfo Try.prog 36 4 = some (4, 34) := by kernel_rfl
theorem fi36_5 : fieldInfo Try.prog 36 5 = some (5, 3) := by kernel_rfl
theorem zi36 : zeroAV Try.prog 36 = some (.agg [.v (.string ⟨#[]⟩), .v (.slice none 0 0), .v (.slice none 0 0), .v (.slice none 0 0), .v (.slice none 0 0), .v (.int .i64 0)]) := by kernel_rfl
theorem sp36 : structPlaces Try.prog 36 = some [(0, 1), (1, 1), (2, 1), (3, 1), (4, 1), (5, 1)] := by kernel_rfl
theorem ti37 : tyInfo Try.prog 37 = some (false, 1) := by kernel_rfl
theorem zi37 : zeroAV Try.prog 37 = some (.v .nilFunc) := by kernel_rfl
theorem ti38 : tyInfo Try.prog 38 = some (false, 1) := by kernel_rfl
theorem ei38 : elemInfo Try.prog 38 = some (30, 3) := by kernel_rfl
theorem ai38 : appInfo Try.prog 38 38 = some ⟨30, 3, 48⟩ := by kernel_rfl
theorem zi38 : zeroAV Try.prog 38 = some (.v (.slice none 0 0)) := by kernel_rfl
theorem un38 : Program.underlying Try.prog 38 = some (.slice 30) := by kernel_rfl
theorem ti39 : tyInfo Try.prog 39 = some (false, 1) := by kernel_rfl
theorem zi39 : zeroAV Try.prog 39 = some (.v .nilFunc) := by kernel_rfl
theorem ti40 : tyInfo Try.prog 40 = some (false, 1) := by kernel_rfl
theorem zi40 : zeroAV Try.prog 40 = some (.v .nilFunc) := by kernel_rfl
theorem ti41 : tyInfo Try.prog 41 = some (false, 1) := by kernel_rfl
theorem ei41 : elemInfo Try.prog 41 = some (51, 3) := by kernel_rfl
theorem ai41 : appInfo Try.prog 41 41 = some ⟨51, 3, 48⟩ := by kernel_rfl
theorem zi41 : zeroAV Try.prog 41 = some (.v (.slice none 0 0)) := by kernel_rfl
theorem un41 : Program.underlying Try.prog 41 = some (.slice 51) := by kernel_rfl
theorem ti42 : tyInfo Try.prog 42 = some (false, 1) := by kernel_rfl
theorem zi42 : zeroAV Try.prog 42 = some (.v .nilFunc) := by kernel_rfl
theorem ti43 : tyInfo Try.prog 43 = some (false, 1) := by kernel_rfl
theorem zi43 : zeroAV Try.prog 43 = some (.v .nilFunc) := by kernel_rfl
theorem ti44 : tyInfo Try.prog 44 = some (false, 1) := by kernel_rfl
theorem zi44 : zeroAV Try.prog 44 = some (.v .nilFunc) := by kernel_rfl
theorem ti45 : tyInfo Try.prog 45 = some (false, 1) := by kernel_rfl
theorem ei45 : elemInfo Try.prog 45 = some (49, 4) := by kernel_rfl
theorem ai45 : appInfo Try.prog 45 45 = some ⟨49, 4, 56⟩ := by kernel_rfl
theorem zi45 : zeroAV Try.prog 45 = some (.v (.slice none 0 0)) := by kernel_rfl
theorem un45 : Program.underlying Try.prog 45 = some (.slice 49) := by kernel_rfl
theorem ti46 : tyInfo Try.prog 46 = some (true, 2) := by kernel_rfl
theorem fi46_0 : fieldInfo Try.prog 46 0 = some (0, 9) := by kernel_rfl
theorem fi46_1 : fieldInfo Try.prog 46 1 = some (1, 45) := by kernel_rfl
theorem zi46 : zeroAV Try.prog 46 = some (.agg [.v (.string ⟨#[]⟩), .v (.slice none 0 0)]) := by kernel_rfl
theorem sp46 : structPlaces Try.prog 46 = some [(0, 1), (1, 1)] := by kernel_rfl
theorem ti47 : tyInfo Try.prog 47 = some (true, 2) := by kernel_rfl
theorem fi47_0 : fieldInfo Try.prog 47 0 = some (0, 9) := by kernel_rfl
theorem fi47_1 : fieldInfo Try.prog 47 1 = some (1, 45) := by kernel_rfl
theorem zi47 : zeroAV Try.prog 47 = some (.agg [.v (.string ⟨#[]⟩), .v (.slice none 0 0)]) := by kernel_rfl
theorem sp47 : structPlaces Try.prog 47 = some [(0, 1), (1, 1)] := by kernel_rfl
theorem ti48 : tyInfo Try.prog 48 = some (true, 4) := by kernel_rfl
theorem fi48_0 : fieldInfo Try.prog 48 0 = some (0, 3) := by kernel_rfl
theorem fi48_1 : fieldInfo Try.prog 48 1 = some (1, 3) := by kernel_rfl
theorem fi48_2 : fieldInfo Try.prog 48 2 = some (2, 9) := by kernel_rfl
theorem fi48_3 : fieldInfo Try.prog 48 3 = some (3, 45) := by kernel_rfl
theorem zi48 : zeroAV Try.prog 48 = some (.agg [.v (.int .i64 0), .v (.int .i64 0), .v (.string ⟨#[]⟩), .v (.slice none 0 0)]) := by kernel_rfl
theorem sp48 : structPlaces Try.prog 48 = some [(0, 1), (1, 1), (2, 1), (3, 1)] := by kernel_rfl
theorem ti49 : tyInfo Try.prog 49 = some (true, 4) := by kernel_rfl
theorem fi49_0 : fieldInfo Try.prog 49 0 = some (0, 3) := by kernel_rfl
theorem fi49_1 : fieldInfo Try.prog 49 1 = some (1, 3) := by kernel_rfl
theorem fi49_2 : fieldInfo Try.prog 49 2 = some (2, 9) := by kernel_rfl
theorem fi49_3 : fieldInfo Try.prog 49 3 = some (3, 45) := by kernel_rfl
theorem zi49 : zeroAV Try.prog 49 = some (.agg [.v (.int .i64 0), .v (.int .i64 0), .v (.string ⟨#[]⟩), .v (.slice none 0 0)]) := by kernel_rfl
theorem sp49 : structPlaces Try.prog 49 = some [(0, 1), (1, 1), (2, 1), (3, 1)] := by kernel_rfl
theorem ti50 : tyInfo Try.prog 50 = some (true, 3) := by kernel_rfl
theorem fi50_0 : fieldInfo Try.prog 50 0 = some (0, 3) := by kernel_rfl
theorem fi50_1 : fieldInfo Try.prog 50 1 = some (1, 47) := by kernel_rfl
theorem zi50 : zeroAV Try.prog 50 = some (.agg [.v (.int .i64 0), .v (.string ⟨#[]⟩), .v (.slice none 0 0)]) := by kernel_rfl
theorem sp50 : structPlaces Try.prog 50 = some [(0, 1), (1, 2)] := by kernel_rfl
theorem ti51 : tyInfo Try.prog 51 = some (true, 3) := by kernel_rfl
theorem fi51_0 : fieldInfo Try.prog 51 0 = some (0, 3) := by kernel_rfl
theorem fi51_1 : fieldInfo Try.prog 51 1 = some (1, 47) := by kernel_rfl
theorem zi51 : zeroAV Try.prog 51 = some (.agg [.v (.int .i64 0), .v (.string ⟨#[]⟩), .v (.slice none 0 0)]) := by kernel_rfl
theorem sp51 : structPlaces Try.prog 51 = some [(0, 1), (1, 2)] := by kernel_rfl
theorem ti52 : tyInfo Try.prog 52 = some (false, 1) := by kernel_rfl
theorem zi52 : zeroAV Try.prog 52 = some (.v .nilFunc) := by kernel_rfl
theorem ti53 : tyInfo Try.prog 53 = some (false, 1) := by kernel_rfl
theorem zi53 : zeroAV Try.prog 53 = some (.v .nilFunc) := by kernel_rfl
theorem ti54 : tyInfo Try.prog 54 = some (false, 1) := by kernel_rfl
theorem zi54 : zeroAV Try.prog 54 = some (.v (.map none)) := by kernel_rfl
theorem mi54 : mapInfo Try.prog 54 = some ((.int .i64), 3) := by kernel_rfl
theorem un54 : Program.underlying Try.prog 54 = some (.map 3 3) := by kernel_rfl
theorem ti55 : tyInfo Try.prog 55 = some (false, 1) := by kernel_rfl
theorem ti56 : tyInfo Try.prog 56 = some (false, 1) := by kernel_rfl
theorem zi56 : zeroAV Try.prog 56 = some (.v .nilFunc) := by kernel_rfl
theorem ti57 : tyInfo Try.prog 57 = some (false, 1) := by kernel_rfl
theorem ti58 : tyInfo Try.prog 58 = some (false, 1) := by kernel_rfl
theorem zi58 : zeroAV Try.prog 58 = some (.v .nilFunc) := by kernel_rfl
theorem ti59 : tyInfo Try.prog 59 = some (false, 1) := by kernel_rfl
theorem zi59 : zeroAV Try.prog 59 = some (.v .nilFunc) := by kernel_rfl
theorem ti60 : tyInfo Try.prog 60 = some (false, 1) := by kernel_rfl
theorem zi60 : zeroAV Try.prog 60 = some (.v .nilFunc) := by kernel_rfl
theorem ti61 : tyInfo Try.prog 61 = some (false, 1) := by kernel_rfl
theorem zi61 : zeroAV Try.prog 61 = some (.v .nilFunc) := by kernel_rfl
theorem ti62 : tyInfo Try.prog 62 = some (false, 1) := by kernel_rfl
theorem zi62 : zeroAV Try.prog 62 = some (.v .nilFunc) := by kernel_rfl
theorem ti63 : tyInfo Try.prog 63 = some (false, 1) := by kernel_rfl
theorem zi63 : zeroAV Try.prog 63 = some (.v .nilFunc) := by kernel_rfl
theorem ti64 : tyInfo Try.prog 64 = some (false, 1) := by kernel_rfl
theorem zi64 : zeroAV Try.prog 64 = some (.v .nilFunc) := by kernel_rfl
theorem ti65 : tyInfo Try.prog 65 = some (false, 1) := by kernel_rfl
theorem zi65 : zeroAV Try.prog 65 = some (.v .nilFunc) := by kernel_rfl
theorem ti66 : tyInfo Try.prog 66 = some (false, 1) := by kernel_rfl
theorem zi66 : zeroAV Try.prog 66 = some (.v .nilFunc) := by kernel_rfl
theorem ti67 : tyInfo Try.prog 67 = some (false, 1) := by kernel_rfl
theorem zi67 : zeroAV Try.prog 67 = some (.v .nilFunc) := by kernel_rfl
theorem ti68 : tyInfo Try.prog 68 = some (false, 1) := by kernel_rfl
theorem zi68 : zeroAV Try.prog 68 = some (.v .nilFunc) := by kernel_rfl
theorem ti69 : tyInfo Try.prog 69 = some (false, 1) := by kernel_rfl
theorem zi69 : zeroAV Try.prog 69 = some (.v .nilFunc) := by kernel_rfl
theorem ti70 : tyInfo Try.prog 70 = some (false, 1) := by kernel_rfl
theorem zi70 : zeroAV Try.prog 70 = some (.v .nilFunc) := by kernel_rfl
theorem ti71 : tyInfo Try.prog 71 = some (false, 1) := by kernel_rfl
theorem zi71 : zeroAV Try.prog 71 = some (.v .nilFunc) := by kernel_rfl
theorem ti72 : tyInfo Try.prog 72 = some (false, 1) := by kernel_rfl
theorem zi72 : zeroAV Try.prog 72 = some (.v .nilFunc) := by kernel_rfl
theorem ti73 : tyInfo Try.prog 73 = some (false, 1) := by kernel_rfl
theorem zi73 : zeroAV Try.prog 73 = some (.v .nilFunc) := by kernel_rfl
theorem ti74 : tyInfo Try.prog 74 = some (false, 1) := by kernel_rfl
theorem zi74 : zeroAV Try.prog 74 = some (.v .nilFunc) := by kernel_rfl
theorem ti75 : tyInfo Try.prog 75 = some (false, 1) := by kernel_rfl
theorem zi75 : zeroAV Try.prog 75 = some (.v .nilFunc) := by kernel_rfl
theorem ti76 : tyInfo Try.prog 76 = some (false, 1) := by kernel_rfl
theorem zi76 : zeroAV Try.prog 76 = some (.v .nilFunc) := by kernel_rfl
theorem ti77 : tyInfo Try.prog 77 = some (false, 1) := by kernel_rfl
theorem zi77 : zeroAV Try.prog 77 = some (.v .nilFunc) := by kernel_rfl
theorem ti78 : tyInfo Try.prog 78 = some (false, 1) := by kernel_rfl
theorem zi78 : zeroAV Try.prog 78 = some (.v .nilFunc) := by kernel_rfl
theorem ti79 : tyInfo Try.prog 79 = some (false, 1) := by kernel_rfl
theorem zi79 : zeroAV Try.prog 79 = some (.v .nilFunc) := by kernel_rfl
theorem ti80 : tyInfo Try.prog 80 = some (false, 1) := by kernel_rfl
theorem zi80 : zeroAV Try.prog 80 = some (.v .nilFunc) := by kernel_rfl
theorem ti81 : tyInfo Try.prog 81 = some (false, 1) := by kernel_rfl
theorem zi81 : zeroAV Try.prog 81 = some (.v .nilFunc) := by kernel_rfl
theorem ti82 : tyInfo Try.prog 82 = some (true, 4) := by kernel_rfl
theorem fi82_0 : fieldInfo Try.prog 82 0 = some (0, 17) := by kernel_rfl
theorem fi82_1 : fieldInfo Try.prog 82 1 = some (1, 17) := by kernel_rfl
theorem fi82_2 : fieldInfo Try.prog 82 2 = some (2, 17) := by kernel_rfl
theorem fi82_3 : fieldInfo Try.prog 82 3 = some (3, 9) := by kernel_rfl
theorem zi82 : zeroAV Try.prog 82 = some (.agg [.v (.pointer none), .v (.pointer none), .v (.pointer none), .v (.string ⟨#[]⟩)]) := by kernel_rfl
theorem sp82 : structPlaces Try.prog 82 = some [(0, 1), (1, 1), (2, 1), (3, 1)] := by kernel_rfl
theorem ti84 : tyInfo Try.prog 84 = some (true, 0) := by kernel_rfl
theorem zi84 : zeroAV Try.prog 84 = some (.agg []) := by kernel_rfl
theorem ti85 : tyInfo Try.prog 85 = some (true, 0) := by kernel_rfl
theorem zi85 : zeroAV Try.prog 85 = some (.agg []) := by kernel_rfl
theorem sp85 : structPlaces Try.prog 85 = some [(0, 0)] := by kernel_rfl
theorem ti87 : tyInfo Try.prog 87 = some (false, 1) := by kernel_rfl
theorem zi87 : zeroAV Try.prog 87 = some (.v .nilFunc) := by kernel_rfl
theorem ti88 : tyInfo Try.prog 88 = some (false, 1) := by kernel_rfl
theorem zi88 : zeroAV Try.prog 88 = some (.v (.int .u32 0)) := by kernel_rfl
theorem un88 : Program.underlying Try.prog 88 = some (.int .u32) := by kernel_rfl
theorem ti91 : tyInfo Try.prog 91 = some (false, 1) := by kernel_rfl
theorem zi91 : zeroAV Try.prog 91 = some (.v .nilFunc) := by kernel_rfl
theorem ti92 : tyInfo Try.prog 92 = some (false, 1) := by kernel_rfl
theorem zi92 : zeroAV Try.prog 92 = some (.v (.pointer none)) := by kernel_rfl
theorem un92 : Program.underlying Try.prog 92 = some (.pointer 5) := by kernel_rfl
theorem ti95 : tyInfo Try.prog 95 = some (true, 11) := by kernel_rfl
theorem fi95_0 : fieldInfo Try.prog 95 0 = some (0, 12) := by kernel_rfl
theorem fi95_1 : fieldInfo Try.prog 95 1 = some (1, 12) := by kernel_rfl
theorem fi95_2 : fieldInfo Try.prog 95 2 = some (2, 88) := by kernel_rfl
theorem fi95_3 : fieldInfo Try.prog 95 3 = some (3, 89) := by kernel_rfl
theorem fi95_4 : fieldInfo Try.prog 95 4 = some (4, 5) := by kernel_rfl
theorem fi95_5 : fieldInfo Try.prog 95 5 = some (5, 5) := by kernel_rfl
theorem fi95_6 : fieldInfo Try.prog 95 6 = some (6, 90) := by kernel_rfl
theorem fi95_7 : fieldInfo Try.prog 95 7 = some (7, 91) := by kernel_rfl
theorem fi95_8 : fieldInfo Try.prog 95 8 = some (8, 92) := by kernel_rfl
theorem fi95_9 : fieldInfo Try.prog 95 9 = some (9, 93) := by kernel_rfl
theorem fi95_10 : fieldInfo Try.prog 95 10 = some (10, 94) := by kernel_rfl
theorem zi95 : zeroAV Try.prog 95 = some (.agg [.v (.int .u64 0), .v (.int .u64 0), .v (.int .u32 0), .v (.int .u8 0), .v (.int .u8 0), .v (.int .u8 0), .v (.int .u8 0), .v .nilFunc, .v (.pointer none), .v (.int .i32 0), .v (.int .i32 0)]) := by kernel_rfl
theorem sp95 : structPlaces Try.prog 95 = some [(0, 1), (1, 1), (2, 1), (3, 1), (4, 1), (5, 1), (6, 1), (7, 1), (8, 1), (9, 1), (10, 1)] := by kernel_rfl
theorem ti97 : tyInfo Try.prog 97 = some (true, 2) := by kernel_rfl
theorem fi97_0 : fieldInfo Try.prog 97 0 = some (0, 9) := by kernel_rfl
theorem fi97_1 : fieldInfo Try.prog 97 1 = some (1, 3) := by kernel_rfl
theorem zi97 : zeroAV Try.prog 97 = some (.agg [.v (.string ⟨#[]⟩), .v (.int .i64 0)]) := by kernel_rfl
theorem sp97 : structPlaces Try.prog 97 = some [(0, 1), (1, 1)] := by kernel_rfl
theorem ti98 : tyInfo Try.prog 98 = some (true, 2) := by kernel_rfl
theorem fi98_0 : fieldInfo Try.prog 98 0 = some (0, 9) := by kernel_rfl
theorem fi98_1 : fieldInfo Try.prog 98 1 = some (1, 3) := by kernel_rfl
theorem zi98 : zeroAV Try.prog 98 = some (.agg [.v (.string ⟨#[]⟩), .v (.int .i64 0)]) := by kernel_rfl
theorem sp98 : structPlaces Try.prog 98 = some [(0, 1), (1, 1)] := by kernel_rfl
theorem ti99 : tyInfo Try.prog 99 = some (true, 3) := by kernel_rfl
theorem fi99_0 : fieldInfo Try.prog 99 0 = some (0, 3) := by kernel_rfl
theorem fi99_1 : fieldInfo Try.prog 99 1 = some (1, 9) := by kernel_rfl
theorem fi99_2 : fieldInfo Try.prog 99 2 = some (2, 45) := by kernel_rfl
theorem zi99 : zeroAV Try.prog 99 = some (.agg [.v (.int .i64 0), .v (.string ⟨#[]⟩), .v (.slice none 0 0)]) := by kernel_rfl
theorem sp99 : structPlaces Try.prog 99 = some [(0, 1), (1, 1), (2, 1)] := by kernel_rfl
theorem ti100 : tyInfo Try.prog 100 = some (true, 3) := by kernel_rfl
theorem fi100_0 : fieldInfo Try.prog 100 0 = some (0, 3) := by kernel_rfl
theorem fi100_1 : fieldInfo Try.prog 100 1 = some (1, 9) := by kernel_rfl
theorem fi100_2 : fieldInfo Try.prog 100 2 = some (2, 45) := by kernel_rfl
theorem zi100 : zeroAV Try.prog 100 = some (.agg [.v (.int .i64 0), .v (.string ⟨#[]⟩), .v (.slice none 0 0)]) := by kernel_rfl
theorem sp100 : structPlaces Try.prog 100 = some [(0, 1), (1, 1), (2, 1)] := by kernel_rfl
theorem ti101 : tyInfo Try.prog 101 = some (false, 1) := by kernel_rfl
theorem zi101 : zeroAV Try.prog 101 = some (.v (.pointer none)) := by kernel_rfl
theorem mixed : Try.prog.follows .mixedOrders = true := by kernel_rfl
end Go.Proofs.Ytoccpldnegloaaa.Ab
