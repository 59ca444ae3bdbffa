/- Facts on the types of the given program, each by computation. No condition. -/
import Derived.Test.YtnagcfnebfhnhaaRun
import Derived.Test.YtnagcfnebfhnhaaProg
import Derived.KernelRfl
namespace Go.Bx
open Go.RowKit Go.Proofs
theorem bel_124 : tby Try.prog 5 = 1 := by kernel_rfl
theorem bel_23 : tby Try.prog 9 = 16 := by kernel_rfl
theorem bel_29 : tby Try.prog 93 = 48 := by kernel_rfl
theorem bel_36 : tby Try.prog 31 = 40 := by kernel_rfl
theorem bel_48 : tby Try.prog 128 = 32 := by kernel_rfl
theorem bel_56 : tby Try.prog 3 = 8 := by kernel_rfl
theorem bel_68 : tby Try.prog 109 = 80 := by kernel_rfl
theorem bel_69 : tby Try.prog 111 = 48 := by kernel_rfl
theorem bel_80 : tby Try.prog 120 = 40 := by kernel_rfl
theorem tagg_107 : tagg Try.prog 107 = some true := by kernel_rfl
theorem tagg_109 : tagg Try.prog 109 = some true := by kernel_rfl
theorem tagg_111 : tagg Try.prog 111 = some true := by kernel_rfl
theorem tagg_119 : tagg Try.prog 119 = some true := by kernel_rfl
theorem tagg_120 : tagg Try.prog 120 = some true := by kernel_rfl
theorem tagg_127 : tagg Try.prog 127 = some true := by kernel_rfl
theorem tagg_128 : tagg Try.prog 128 = some true := by kernel_rfl
theorem tagg_132 : tagg Try.prog 132 = some true := by kernel_rfl
theorem tagg_134 : tagg Try.prog 134 = some true := by kernel_rfl
theorem tagg_137 : tagg Try.prog 137 = some true := by kernel_rfl
theorem tagg_23 : tagg Try.prog 23 = some false := by kernel_rfl
theorem tagg_25 : tagg Try.prog 25 = some true := by kernel_rfl
theorem tagg_3 : tagg Try.prog 3 = some false := by kernel_rfl
theorem tagg_31 : tagg Try.prog 31 = some true := by kernel_rfl
theorem tagg_36 : tagg Try.prog 36 = some false := by kernel_rfl
theorem tagg_42 : tagg Try.prog 42 = some false := by kernel_rfl
theorem tagg_43 : tagg Try.prog 43 = some false := by kernel_rfl
theorem tagg_45 : tagg Try.prog 45 = some true := by kernel_rfl
theorem tagg_48 : tagg Try.prog 48 = some false := by kernel_rfl
theorem tagg_50 : tagg Try.prog 50 = some true := by kernel_rfl
theorem tagg_56 : tagg Try.prog 56 = some false := by kernel_rfl
theorem tagg_62 : tagg Try.prog 62 = some false := by kernel_rfl
theorem tagg_63 : tagg Try.prog 63 = some false := by kernel_rfl
theorem tagg_65 : tagg Try.prog 65 = some true := by kernel_rfl
theorem tagg_68 : tagg Try.prog 68 = some false := by kernel_rfl
theorem tagg_69 : tagg Try.prog 69 = some false := by kernel_rfl
theorem tagg_71 : tagg Try.prog 71 = some true := by kernel_rfl
theorem tagg_76 : tagg Try.prog 76 = some true := by kernel_rfl
theorem tagg_83 : tagg Try.prog 83 = some true := by kernel_rfl
theorem tagg_9 : tagg Try.prog 9 = some false := by kernel_rfl
theorem tagg_90 : tagg Try.prog 90 = some true := by kernel_rfl
theorem tagg_93 : tagg Try.prog 93 = some true := by kernel_rfl
theorem tbool_4 : tbool Try.prog 4 = true := by kernel_rfl
theorem tel_124 : tel Try.prog 124 = some (5, 1) := by kernel_rfl
theorem tel_22 : tel Try.prog 22 = some (90, 3) := by kernel_rfl
theorem tel_23 : tel Try.prog 23 = some (9, 1) := by kernel_rfl
theorem tel_29 : tel Try.prog 29 = some (93, 3) := by kernel_rfl
theorem tel_36 : tel Try.prog 36 = some (31, 2) := by kernel_rfl
theorem tel_42 : tel Try.prog 42 = some (25, 2) := by kernel_rfl
theorem tel_43 : tel Try.prog 43 = some (127, 2) := by kernel_rfl
theorem tel_48 : tel Try.prog 48 = some (128, 2) := by kernel_rfl
theorem tel_56 : tel Try.prog 56 = some (3, 1) := by kernel_rfl
theorem tel_62 : tel Try.prog 62 = some (134, 5) := by kernel_rfl
theorem tel_63 : tel Try.prog 63 = some (137, 3) := by kernel_rfl
theorem tel_68 : tel Try.prog 68 = some (109, 5) := by kernel_rfl
theorem tel_69 : tel Try.prog 69 = some (111, 3) := by kernel_rfl
theorem tel_74 : tel Try.prog 74 = some (119, 2) := by kernel_rfl
theorem tel_80 : tel Try.prog 80 = some (120, 2) := by kernel_rfl
theorem tel_9 : tel Try.prog 9 = none := by kernel_rfl
theorem tfo_107_0 : tfo Try.prog 107 0 = some 0 := by kernel_rfl
theorem tfo_107_1 : tfo Try.prog 107 1 = some 1 := by kernel_rfl
theorem tfo_109_0 : tfo Try.prog 109 0 = some 0 := by kernel_rfl
theorem tfo_109_1 : tfo Try.prog 109 1 = some 1 := by kernel_rfl
theorem tfo_109_2 : tfo Try.prog 109 2 = some 3 := by kernel_rfl
theorem tfo_109_3 : tfo Try.prog 109 3 = some 4 := by kernel_rfl
theorem tfo_111_0 : tfo Try.prog 111 0 = some 0 := by kernel_rfl
theorem tfo_111_1 : tfo Try.prog 111 1 = some 1 := by kernel_rfl
theorem tfo_119_0 : tfo Try.prog 119 0 = some 0 := by kernel_rfl
theorem tfo_119_1 : tfo Try.prog 119 1 = some 1 := by kernel_rfl
theorem tfo_120_0 : tfo Try.prog 120 0 = some 0 := by kernel_rfl
theorem tfo_120_1 : tfo Try.prog 120 1 = some 1 := by kernel_rfl
theorem tfo_127_0 : tfo Try.prog 127 0 = some 0 := by kernel_rfl
theorem tfo_127_1 : tfo Try.prog 127 1 = some 1 := by kernel_rfl
theorem tfo_128_0 : tfo Try.prog 128 0 = some 0 := by kernel_rfl
theorem tfo_128_1 : tfo Try.prog 128 1 = some 1 := by kernel_rfl
theorem tfo_132_0 : tfo Try.prog 132 0 = some 0 := by kernel_rfl
theorem tfo_132_1 : tfo Try.prog 132 1 = some 1 := by kernel_rfl
theorem tfo_134_0 : tfo Try.prog 134 0 = some 0 := by kernel_rfl
theorem tfo_134_1 : tfo Try.prog 134 1 = some 1 := by kernel_rfl
theorem tfo_134_2 : tfo Try.prog 134 2 = some 3 := by kernel_rfl
theorem tfo_134_3 : tfo Try.prog 134 3 = some 4 := by kernel_rfl
theorem tfo_137_0 : tfo Try.prog 137 0 = some 0 := by kernel_rfl
theorem tfo_137_1 : tfo Try.prog 137 1 = some 1 := by kernel_rfl
theorem tfo_25_0 : tfo Try.prog 25 0 = some 0 := by kernel_rfl
theorem tfo_25_1 : tfo Try.prog 25 1 = some 1 := by kernel_rfl
theorem tfo_31_0 : tfo Try.prog 31 0 = some 0 := by kernel_rfl
theorem tfo_31_1 : tfo Try.prog 31 1 = some 1 := by kernel_rfl
theorem tfo_45_0 : tfo Try.prog 45 0 = some 0 := by kernel_rfl
theorem tfo_45_1 : tfo Try.prog 45 1 = some 1 := by kernel_rfl
theorem tfo_45_2 : tfo Try.prog 45 2 = some 2 := by kernel_rfl
theorem tfo_50_0 : tfo Try.prog 50 0 = some 0 := by kernel_rfl
theorem tfo_50_1 : tfo Try.prog 50 1 = some 1 := by kernel_rfl
theorem tfo_50_2 : tfo Try.prog 50 2 = some 2 := by kernel_rfl
theorem tfo_65_0 : tfo Try.prog 65 0 = some 0 := by kernel_rfl
theorem tfo_65_1 : tfo Try.prog 65 1 = some 1 := by kernel_rfl
theorem tfo_65_2 : tfo Try.prog 65 2 = some 2 := by kernel_rfl
theorem tfo_65_3 : tfo Try.prog 65 3 = some 3 := by kernel_rfl
theorem tfo_71_0 : tfo Try.prog 71 0 = some 0 := by kernel_rfl
theorem tfo_71_1 : tfo Try.prog 71 1 = some 1 := by kernel_rfl
theorem tfo_71_2 : tfo Try.prog 71 2 = some 2 := by kernel_rfl
theorem tfo_71_3 : tfo Try.prog 71 3 = some 3 := by kernel_rfl
theorem tfo_76_0 : tfo Try.prog 76 0 = some 0 := by kernel_rfl
theorem tfo_76_1 : tfo Try.prog 76 1 = some 3 := by kernel_rfl
theorem tfo_76_2 : tfo Try.prog 76 2 = some 4 := by kernel_rfl
theorem tfo_76_3 : tfo Try.prog 76 3 = some 5 := by kernel_rfl
theorem tfo_76_4 : tfo Try.prog 76 4 = some 6 := by kernel_rfl
theorem tfo_83_0 : tfo Try.prog 83 0 = some 0 := by kernel_rfl
theorem tfo_83_1 : tfo Try.prog 83 1 = some 3 := by kernel_rfl
theorem tfo_83_2 : tfo Try.prog 83 2 = some 4 := by kernel_rfl
theorem tfo_83_3 : tfo Try.prog 83 3 = some 5 := by kernel_rfl
theorem tfo_83_4 : tfo Try.prog 83 4 = some 6 := by kernel_rfl
theorem tfo_90_0 : tfo Try.prog 90 0 = some 0 := by kernel_rfl
theorem tfo_90_1 : tfo Try.prog 90 1 = some 2 := by kernel_rfl
theorem tfo_93_0 : tfo Try.prog 93 0 = some 0 := by kernel_rfl
theorem tfo_93_1 : tfo Try.prog 93 1 = some 2 := by kernel_rfl
theorem tinf_107 : tinf Try.prog 107 = true := by kernel_rfl
theorem tinf_109 : tinf Try.prog 109 = true := by kernel_rfl
theorem tinf_111 : tinf Try.prog 111 = true := by kernel_rfl
theorem tinf_120 : tinf Try.prog 120 = true := by kernel_rfl
theorem tinf_128 : tinf Try.prog 128 = true := by kernel_rfl
theorem tinf_23 : tinf Try.prog 23 = true := by kernel_rfl
theorem tinf_3 : tinf Try.prog 3 = true := by kernel_rfl
theorem tinf_31 : tinf Try.prog 31 = true := by kernel_rfl
theorem tinf_36 : tinf Try.prog 36 = true := by kernel_rfl
theorem tinf_48 : tinf Try.prog 48 = true := by kernel_rfl
theorem tinf_50 : tinf Try.prog 50 = true := by kernel_rfl
theorem tinf_56 : tinf Try.prog 56 = true := by kernel_rfl
theorem tinf_68 : tinf Try.prog 68 = true := by kernel_rfl
theorem tinf_69 : tinf Try.prog 69 = true := by kernel_rfl
theorem tinf_71 : tinf Try.prog 71 = true := by kernel_rfl
theorem tinf_83 : tinf Try.prog 83 = true := by kernel_rfl
theorem tinf_9 : tinf Try.prog 9 = true := by kernel_rfl
theorem tinf_93 : tinf Try.prog 93 = true := by kernel_rfl
theorem tint_124 : tint Try.prog 124 = none := by kernel_rfl
theorem tint_3 : tint Try.prog 3 = some .i64 := by kernel_rfl
theorem tint_5 : tint Try.prog 5 = some .u8 := by kernel_rfl
theorem tint_9 : tint Try.prog 9 = none := by kernel_rfl
theorem tpair_128 : tpair Try.prog 128 = true := by kernel_rfl
theorem tplaces_31 : tplaces Try.prog 31 = some [(0, 1), (1, 1)] := by kernel_rfl
theorem tstr_22 : tstr Try.prog 22 = false := by kernel_rfl
theorem tstr_23 : tstr Try.prog 23 = false := by kernel_rfl
theorem tstr_29 : tstr Try.prog 29 = false := by kernel_rfl
theorem tstr_36 : tstr Try.prog 36 = false := by kernel_rfl
theorem tstr_42 : tstr Try.prog 42 = false := by kernel_rfl
theorem tstr_43 : tstr Try.prog 43 = false := by kernel_rfl
theorem tstr_48 : tstr Try.prog 48 = false := by kernel_rfl
theorem tstr_56 : tstr Try.prog 56 = false := by kernel_rfl
theorem tstr_62 : tstr Try.prog 62 = false := by kernel_rfl
theorem tstr_63 : tstr Try.prog 63 = false := by kernel_rfl
theorem tstr_68 : tstr Try.prog 68 = false := by kernel_rfl
theorem tstr_69 : tstr Try.prog 69 = false := by kernel_rfl
theorem tstr_74 : tstr Try.prog 74 = false := by kernel_rfl
theorem tstr_80 : tstr Try.prog 80 = false := by kernel_rfl
theorem tstr_9 : tstr Try.prog 9 = true := by kernel_rfl
theorem tsz_107 : tsz Try.prog 107 = 2 := by kernel_rfl
theorem tsz_109 : tsz Try.prog 109 = 5 := by kernel_rfl
theorem tsz_111 : tsz Try.prog 111 = 3 := by kernel_rfl
theorem tsz_119 : tsz Try.prog 119 = 2 := by kernel_rfl
theorem tsz_120 : tsz Try.prog 120 = 2 := by kernel_rfl
theorem tsz_127 : tsz Try.prog 127 = 2 := by kernel_rfl
theorem tsz_128 : tsz Try.prog 128 = 2 := by kernel_rfl
theorem tsz_132 : tsz Try.prog 132 = 2 := by kernel_rfl
theorem tsz_134 : tsz Try.prog 134 = 5 := by kernel_rfl
theorem tsz_137 : tsz Try.prog 137 = 3 := by kernel_rfl
theorem tsz_23 : tsz Try.prog 23 = 1 := by kernel_rfl
theorem tsz_25 : tsz Try.prog 25 = 2 := by kernel_rfl
theorem tsz_3 : tsz Try.prog 3 = 1 := by kernel_rfl
theorem tsz_31 : tsz Try.prog 31 = 2 := by kernel_rfl
theorem tsz_36 : tsz Try.prog 36 = 1 := by kernel_rfl
theorem tsz_42 : tsz Try.prog 42 = 1 := by kernel_rfl
theorem tsz_43 : tsz Try.prog 43 = 1 := by kernel_rfl
theorem tsz_45 : tsz Try.prog 45 = 3 := by kernel_rfl
theorem tsz_48 : tsz Try.prog 48 = 1 := by kernel_rfl
theorem tsz_50 : tsz Try.prog 50 = 3 := by kernel_rfl
theorem tsz_56 : tsz Try.prog 56 = 1 := by kernel_rfl
theorem tsz_62 : tsz Try.prog 62 = 1 := by kernel_rfl
theorem tsz_63 : tsz Try.prog 63 = 1 := by kernel_rfl
theorem tsz_65 : tsz Try.prog 65 = 4 := by kernel_rfl
theorem tsz_68 : tsz Try.prog 68 = 1 := by kernel_rfl
theorem tsz_69 : tsz Try.prog 69 = 1 := by kernel_rfl
theorem tsz_71 : tsz Try.prog 71 = 4 := by kernel_rfl
theorem tsz_76 : tsz Try.prog 76 = 7 := by kernel_rfl
theorem tsz_83 : tsz Try.prog 83 = 7 := by kernel_rfl
theorem tsz_9 : tsz Try.prog 9 = 1 := by kernel_rfl
theorem tsz_90 : tsz Try.prog 90 = 3 := by kernel_rfl
theorem tsz_93 : tsz Try.prog 93 = 3 := by kernel_rfl
theorem tz_107 : tz Try.prog 107 = some [D.str [], D.nil] := by kernel_rfl
theorem tz_109 : tz Try.prog 109 = some [D.int .i64 0, D.str [], D.nil, D.str [], D.str []] := by kernel_rfl
theorem tz_111 : tz Try.prog 111 = some [D.int .i64 0, D.str [], D.nil] := by kernel_rfl
theorem tz_120 : tz Try.prog 120 = some [D.str [], D.nil] := by kernel_rfl
theorem tz_128 : tz Try.prog 128 = some [D.str [], D.str []] := by kernel_rfl
theorem tz_31 : tz Try.prog 31 = some [D.str [], D.nil] := by kernel_rfl
theorem tz_50 : tz Try.prog 50 = some [D.str [], D.nil, D.nil] := by kernel_rfl
theorem tz_71 : tz Try.prog 71 = some [D.str [], D.int .i64 0, D.nil, D.nil] := by kernel_rfl
theorem tz_83 : tz Try.prog 83 = some [D.str [], D.nil, D.nil, D.int .i64 0, D.nil, D.int .i64 0, D.int .i64 0] := by kernel_rfl
theorem tz_93 : tz Try.prog 93 = some [D.str [], D.nil, D.int .i64 0] := by kernel_rfl
theorem zel_23 : tz Try.prog 9 = some [D.str []] := by kernel_rfl
theorem zel_29 : tz Try.prog 93 = some [D.str [], D.nil, D.int .i64 0] := by kernel_rfl
theorem zel_36 : tz Try.prog 31 = some [D.str [], D.nil] := by kernel_rfl
theorem zel_48 : tz Try.prog 128 = some [D.str [], D.str []] := by kernel_rfl
theorem zel_56 : tz Try.prog 3 = some [D.int .i64 0] := by kernel_rfl
theorem zel_68 : tz Try.prog 109 = some [D.int .i64 0, D.str [], D.nil, D.str [], D.str []] := by kernel_rfl
theorem zel_69 : tz Try.prog 111 = some [D.int .i64 0, D.str [], D.nil] := by kernel_rfl
theorem zel_80 : tz Try.prog 120 = some [D.str [], D.nil] := by kernel_rfl
end Go.Bx
