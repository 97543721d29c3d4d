/-
  What the environment answers, each a closed fact (more of them). By this seat's own program.
-/
import Derived.Test.YtjcgaelibiiiiaaDoorCode2
import Derived.Test.YtjcgaelibiiiiaaDoorAbsAuto
import Derived.Test.YtjcgaelibiiiiaaDoorFacts
set_option linter.unusedVariables false
namespace Go.Proofs.YtjcgaelibiiiiaaDoor
open Go.Abs
@[simp] theorem e_E_bytes_3 (x : ExtF) : (EX x).bytes 3 = some 8 := by kernel_rfl
@[simp] theorem e_E_bytes_52 (x : ExtF) : (EX x).bytes 52 = some 16 := by kernel_rfl
@[simp] theorem e_E_elemOf_23 (x : ExtF) : (EX x).elemOf 23 = some 52 := by kernel_rfl
@[simp] theorem e_E_elemOf_24 (x : ExtF) : (EX x).elemOf 24 = some 3 := by kernel_rfl
@[simp] theorem e_E_eqs_52 (x : ExtF) : (EX x).eqs 52 = some 2 := by kernel_rfl
@[simp] theorem e_E_isAgg_23 (x : ExtF) : (EX x).isAgg 23 = some false := by kernel_rfl
@[simp] theorem e_E_isAgg_66 (x : ExtF) : (EX x).isAgg 66 = some false := by kernel_rfl
@[simp] theorem e_E_size_23 (x : ExtF) : (EX x).size 23 = some 1 := by kernel_rfl
@[simp] theorem e_E_size_66 (x : ExtF) : (EX x).size 66 = some 1 := by kernel_rfl
@[simp] theorem e_E_under_22 (x : ExtF) : (EX x).under 22 = some (TypeDesc.slice 52) := by kernel_rfl
@[simp] theorem e_E_under_24 (x : ExtF) : (EX x).under 24 = some (TypeDesc.slice 3) := by kernel_rfl
@[simp] theorem e_E_under_25 (x : ExtF) : (EX x).under 25 = some (TypeDesc.int IntKind.i64) := by kernel_rfl
@[simp] theorem e_E_under_4 (x : ExtF) : (EX x).under 4 = some TypeDesc.bool := by kernel_rfl
@[simp] theorem e_E_under_69 (x : ExtF) : (EX x).under 69 = some (TypeDesc.int IntKind.u64) := by kernel_rfl
@[simp] theorem e_E_zero_23 (x : ExtF) : (EX x).zero 23 = some [AVal.e0] := by kernel_rfl
@[simp] theorem e_E_zero_3 (x : ExtF) : (EX x).zero 3 = some [AVal.raw (Value.int IntKind.i64 (0))] := by kernel_rfl
@[simp] theorem e_E_zero_66 (x : ExtF) : (EX x).zero 66 = some [AVal.raw Value.nilFunc] := by kernel_rfl
@[simp] theorem e_placeIn_E_52_0 (x : ExtF) : placeIn (EX x) 52 0 = some (0, 1) := by kernel_rfl
@[simp] theorem e_placeIn_E_52_1 (x : ExtF) : placeIn (EX x) 52 1 = some (1, 1) := by kernel_rfl
@[simp] theorem pack_23 (x : ExtF) (c : AVal) : (EX x).pack 23 [c] = some c := pack_one _ _ (by simp)
@[simp] theorem pack_3 (x : ExtF) (c : AVal) : (EX x).pack 3 [c] = some c := pack_one _ _ (by simp)
@[simp] theorem pack_50 (x : ExtF) (c : AVal) : (EX x).pack 50 [c] = some c := pack_one _ _ (by simp)
@[simp] theorem pack_52 (x : ExtF) (cs : List AVal) : (EX x).pack 52 cs = some (.agg cs) := pack_agg' _ _ (by simp)
@[simp] theorem pack_66 (x : ExtF) (c : AVal) : (EX x).pack 66 [c] = some c := pack_one _ _ (by simp)
@[simp] theorem aLen_22_sl (x : ExtF) (es : List (List AVal)) : aLen (EX x) (some 22) (.sl es) = some (.raw (.int .i64 es.length)) := by simp [aLen]
@[simp] theorem aLen_22_hs (x : ExtF) (o : OId) (g lo n : Nat) : aLen (EX x) (some 22) (.hs o g lo n) = some (.raw (.int .i64 n)) := by simp [aLen]
@[simp] theorem aLen_22_e0 (x : ExtF) : aLen (EX x) (some 22) .e0 = some (.raw (.int .i64 0)) := by simp [aLen]
@[simp] theorem aLen_23_sl (x : ExtF) (es : List (List AVal)) : aLen (EX x) (some 23) (.sl es) = some (.raw (.int .i64 es.length)) := by simp [aLen]
@[simp] theorem aLen_23_hs (x : ExtF) (o : OId) (g lo n : Nat) : aLen (EX x) (some 23) (.hs o g lo n) = some (.raw (.int .i64 n)) := by simp [aLen]
@[simp] theorem aLen_23_e0 (x : ExtF) : aLen (EX x) (some 23) .e0 = some (.raw (.int .i64 0)) := by simp [aLen]
@[simp] theorem aLen_24_sl (x : ExtF) (es : List (List AVal)) : aLen (EX x) (some 24) (.sl es) = some (.raw (.int .i64 es.length)) := by simp [aLen]
@[simp] theorem aLen_24_hs (x : ExtF) (o : OId) (g lo n : Nat) : aLen (EX x) (some 24) (.hs o g lo n) = some (.raw (.int .i64 n)) := by simp [aLen]
@[simp] theorem aLen_24_e0 (x : ExtF) : aLen (EX x) (some 24) .e0 = some (.raw (.int .i64 0)) := by simp [aLen]
@[simp] theorem site_3_22 (x : ExtF) : (EX x).site 3 22 = false := by kernel_rfl
@[simp] theorem site_3_26 (x : ExtF) : (EX x).site 3 26 = false := by kernel_rfl
@[simp] theorem site_3_29 (x : ExtF) : (EX x).site 3 29 = false := by kernel_rfl
@[simp] theorem site_3_31 (x : ExtF) : (EX x).site 3 31 = false := by kernel_rfl
@[simp] theorem site_3_34 (x : ExtF) : (EX x).site 3 34 = false := by kernel_rfl
@[simp] theorem site_3_39 (x : ExtF) : (EX x).site 3 39 = false := by kernel_rfl
@[simp] theorem site_3_45 (x : ExtF) : (EX x).site 3 45 = false := by kernel_rfl
@[simp] theorem site_3_51 (x : ExtF) : (EX x).site 3 51 = false := by kernel_rfl
@[simp] theorem site_3_56 (x : ExtF) : (EX x).site 3 56 = false := by kernel_rfl
@[simp] theorem site_3_61 (x : ExtF) : (EX x).site 3 61 = false := by kernel_rfl
@[simp] theorem site_3_66 (x : ExtF) : (EX x).site 3 66 = false := by kernel_rfl
@[simp] theorem site_3_95 (x : ExtF) : (EX x).site 3 95 = false := by kernel_rfl
@[simp] theorem site_3_97 (x : ExtF) : (EX x).site 3 97 = false := by kernel_rfl
@[simp] theorem site_3_103 (x : ExtF) : (EX x).site 3 103 = false := by kernel_rfl
@[simp] theorem site_3_106 (x : ExtF) : (EX x).site 3 106 = false := by kernel_rfl
@[simp] theorem site_3_112 (x : ExtF) : (EX x).site 3 112 = false := by kernel_rfl
@[simp] theorem site_4_24 (x : ExtF) : (EX x).site 4 24 = false := by kernel_rfl
@[simp] theorem site_4_26 (x : ExtF) : (EX x).site 4 26 = false := by kernel_rfl
@[simp] theorem site_4_30 (x : ExtF) : (EX x).site 4 30 = false := by kernel_rfl
@[simp] theorem site_4_35 (x : ExtF) : (EX x).site 4 35 = false := by kernel_rfl
@[simp] theorem site_4_40 (x : ExtF) : (EX x).site 4 40 = false := by kernel_rfl
@[simp] theorem site_4_59 (x : ExtF) : (EX x).site 4 59 = false := by kernel_rfl
@[simp] theorem site_4_65 (x : ExtF) : (EX x).site 4 65 = false := by kernel_rfl
@[simp] theorem site_4_71 (x : ExtF) : (EX x).site 4 71 = false := by kernel_rfl
@[simp] theorem site_4_77 (x : ExtF) : (EX x).site 4 77 = false := by kernel_rfl
@[simp] theorem site_4_83 (x : ExtF) : (EX x).site 4 83 = false := by kernel_rfl
@[simp] theorem site_4_89 (x : ExtF) : (EX x).site 4 89 = false := by kernel_rfl
@[simp] theorem site_4_95 (x : ExtF) : (EX x).site 4 95 = false := by kernel_rfl
@[simp] theorem site_4_101 (x : ExtF) : (EX x).site 4 101 = false := by kernel_rfl
@[simp] theorem site_4_109 (x : ExtF) : (EX x).site 4 109 = false := by kernel_rfl
@[simp] theorem site_4_116 (x : ExtF) : (EX x).site 4 116 = false := by kernel_rfl
@[simp] theorem site_4_122 (x : ExtF) : (EX x).site 4 122 = false := by kernel_rfl
@[simp] theorem site_5_18 (x : ExtF) : (EX x).site 5 18 = false := by kernel_rfl
@[simp] theorem site_5_20 (x : ExtF) : (EX x).site 5 20 = false := by kernel_rfl
@[simp] theorem site_5_24 (x : ExtF) : (EX x).site 5 24 = false := by kernel_rfl
@[simp] theorem site_5_34 (x : ExtF) : (EX x).site 5 34 = false := by kernel_rfl
@[simp] theorem site_5_41 (x : ExtF) : (EX x).site 5 41 = false := by kernel_rfl
@[simp] theorem site_5_43 (x : ExtF) : (EX x).site 5 43 = false := by kernel_rfl
@[simp] theorem site_5_48 (x : ExtF) : (EX x).site 5 48 = false := by kernel_rfl
@[simp] theorem site_5_56 (x : ExtF) : (EX x).site 5 56 = false := by kernel_rfl
@[simp] theorem site_5_61 (x : ExtF) : (EX x).site 5 61 = false := by kernel_rfl
@[simp] theorem site_5_66 (x : ExtF) : (EX x).site 5 66 = false := by kernel_rfl
@[simp] theorem site_5_72 (x : ExtF) : (EX x).site 5 72 = false := by kernel_rfl
@[simp] theorem site_5_108 (x : ExtF) : (EX x).site 5 108 = false := by kernel_rfl
@[simp] theorem site_5_118 (x : ExtF) : (EX x).site 5 118 = false := by kernel_rfl
@[simp] theorem site_5_134 (x : ExtF) : (EX x).site 5 134 = false := by kernel_rfl
@[simp] theorem site_6_41 (x : ExtF) : (EX x).site 6 41 = false := by kernel_rfl
@[simp] theorem site_6_43 (x : ExtF) : (EX x).site 6 43 = false := by kernel_rfl
@[simp] theorem site_6_47 (x : ExtF) : (EX x).site 6 47 = false := by kernel_rfl
@[simp] theorem site_6_52 (x : ExtF) : (EX x).site 6 52 = false := by kernel_rfl
@[simp] theorem site_6_57 (x : ExtF) : (EX x).site 6 57 = false := by kernel_rfl
@[simp] theorem site_6_62 (x : ExtF) : (EX x).site 6 62 = false := by kernel_rfl
@[simp] theorem site_6_67 (x : ExtF) : (EX x).site 6 67 = false := by kernel_rfl
@[simp] theorem site_6_78 (x : ExtF) : (EX x).site 6 78 = false := by kernel_rfl
@[simp] theorem site_6_84 (x : ExtF) : (EX x).site 6 84 = false := by kernel_rfl
@[simp] theorem site_6_90 (x : ExtF) : (EX x).site 6 90 = false := by kernel_rfl
@[simp] theorem site_6_96 (x : ExtF) : (EX x).site 6 96 = false := by kernel_rfl
@[simp] theorem site_6_102 (x : ExtF) : (EX x).site 6 102 = false := by kernel_rfl
@[simp] theorem site_6_108 (x : ExtF) : (EX x).site 6 108 = false := by kernel_rfl
@[simp] theorem site_6_114 (x : ExtF) : (EX x).site 6 114 = false := by kernel_rfl
@[simp] theorem site_6_120 (x : ExtF) : (EX x).site 6 120 = false := by kernel_rfl
@[simp] theorem site_6_126 (x : ExtF) : (EX x).site 6 126 = false := by kernel_rfl
@[simp] theorem site_6_132 (x : ExtF) : (EX x).site 6 132 = false := by kernel_rfl
@[simp] theorem site_6_138 (x : ExtF) : (EX x).site 6 138 = false := by kernel_rfl
@[simp] theorem site_6_144 (x : ExtF) : (EX x).site 6 144 = false := by kernel_rfl
@[simp] theorem site_6_149 (x : ExtF) : (EX x).site 6 149 = false := by kernel_rfl
@[simp] theorem site_6_154 (x : ExtF) : (EX x).site 6 154 = false := by kernel_rfl
@[simp] theorem site_6_159 (x : ExtF) : (EX x).site 6 159 = false := by kernel_rfl
@[simp] theorem site_6_164 (x : ExtF) : (EX x).site 6 164 = false := by kernel_rfl
@[simp] theorem site_6_169 (x : ExtF) : (EX x).site 6 169 = false := by kernel_rfl
@[simp] theorem site_6_173 (x : ExtF) : (EX x).site 6 173 = false := by kernel_rfl
@[simp] theorem site_6_178 (x : ExtF) : (EX x).site 6 178 = false := by kernel_rfl
@[simp] theorem site_6_183 (x : ExtF) : (EX x).site 6 183 = false := by kernel_rfl
@[simp] theorem site_6_188 (x : ExtF) : (EX x).site 6 188 = false := by kernel_rfl
@[simp] theorem site_9_5 (x : ExtF) : (EX x).site 9 5 = false := by kernel_rfl
@[simp] theorem site_9_8 (x : ExtF) : (EX x).site 9 8 = false := by kernel_rfl
@[simp] theorem site_10_10 (x : ExtF) : (EX x).site 10 10 = false := by kernel_rfl
@[simp] theorem site_10_15 (x : ExtF) : (EX x).site 10 15 = false := by kernel_rfl
@[simp] theorem site_10_21 (x : ExtF) : (EX x).site 10 21 = false := by kernel_rfl
@[simp] theorem site_11_7 (x : ExtF) : (EX x).site 11 7 = false := by kernel_rfl
@[simp] theorem site_11_17 (x : ExtF) : (EX x).site 11 17 = false := by kernel_rfl
@[simp] theorem site_12_6 (x : ExtF) : (EX x).site 12 6 = false := by kernel_rfl
@[simp] theorem site_12_8 (x : ExtF) : (EX x).site 12 8 = false := by kernel_rfl
@[simp] theorem site_12_13 (x : ExtF) : (EX x).site 12 13 = false := by kernel_rfl
@[simp] theorem site_12_21 (x : ExtF) : (EX x).site 12 21 = false := by kernel_rfl
@[simp] theorem site_13_5 (x : ExtF) : (EX x).site 13 5 = false := by kernel_rfl
@[simp] theorem site_13_8 (x : ExtF) : (EX x).site 13 8 = false := by kernel_rfl
@[simp] theorem site_13_9 (x : ExtF) : (EX x).site 13 9 = false := by kernel_rfl
@[simp] theorem site_14_7 (x : ExtF) : (EX x).site 14 7 = false := by kernel_rfl
@[simp] theorem site_14_9 (x : ExtF) : (EX x).site 14 9 = false := by kernel_rfl
@[simp] theorem site_14_13 (x : ExtF) : (EX x).site 14 13 = false := by kernel_rfl
@[simp] theorem site_16_4 (x : ExtF) : (EX x).site 16 4 = false := by kernel_rfl
@[simp] theorem site_17_7 (x : ExtF) : (EX x).site 17 7 = false := by kernel_rfl
@[simp] theorem site_18_7 (x : ExtF) : (EX x).site 18 7 = false := by kernel_rfl
@[simp] theorem site_18_9 (x : ExtF) : (EX x).site 18 9 = false := by kernel_rfl
@[simp] theorem site_18_13 (x : ExtF) : (EX x).site 18 13 = false := by kernel_rfl
@[simp] theorem site_19_10 (x : ExtF) : (EX x).site 19 10 = false := by kernel_rfl
@[simp] theorem site_19_11 (x : ExtF) : (EX x).site 19 11 = false := by kernel_rfl
@[simp] theorem site_19_12 (x : ExtF) : (EX x).site 19 12 = false := by kernel_rfl
@[simp] theorem site_19_13 (x : ExtF) : (EX x).site 19 13 = false := by kernel_rfl
@[simp] theorem site_19_17 (x : ExtF) : (EX x).site 19 17 = false := by kernel_rfl
@[simp] theorem site_19_23 (x : ExtF) : (EX x).site 19 23 = false := by kernel_rfl
@[simp] theorem site_19_29 (x : ExtF) : (EX x).site 19 29 = false := by kernel_rfl
@[simp] theorem site_19_32 (x : ExtF) : (EX x).site 19 32 = false := by kernel_rfl
@[simp] theorem site_19_33 (x : ExtF) : (EX x).site 19 33 = false := by kernel_rfl
@[simp] theorem site_19_37 (x : ExtF) : (EX x).site 19 37 = false := by kernel_rfl
@[simp] theorem site_19_38 (x : ExtF) : (EX x).site 19 38 = false := by kernel_rfl
@[simp] theorem site_19_45 (x : ExtF) : (EX x).site 19 45 = false := by kernel_rfl
@[simp] theorem site_19_46 (x : ExtF) : (EX x).site 19 46 = false := by kernel_rfl
@[simp] theorem site_19_54 (x : ExtF) : (EX x).site 19 54 = false := by kernel_rfl
@[simp] theorem site_19_55 (x : ExtF) : (EX x).site 19 55 = false := by kernel_rfl
@[simp] theorem site_19_63 (x : ExtF) : (EX x).site 19 63 = false := by kernel_rfl
@[simp] theorem site_19_64 (x : ExtF) : (EX x).site 19 64 = false := by kernel_rfl
@[simp] theorem site_20_8 (x : ExtF) : (EX x).site 20 8 = false := by kernel_rfl
@[simp] theorem site_21_8 (x : ExtF) : (EX x).site 21 8 = false := by kernel_rfl
@[simp] theorem site_22_8 (x : ExtF) : (EX x).site 22 8 = false := by kernel_rfl
@[simp] theorem site_23_7 (x : ExtF) : (EX x).site 23 7 = false := by kernel_rfl
@[simp] theorem site_24_11 (x : ExtF) : (EX x).site 24 11 = true := by kernel_rfl
@[simp] theorem site_24_13 (x : ExtF) : (EX x).site 24 13 = false := by kernel_rfl
@[simp] theorem site_24_15 (x : ExtF) : (EX x).site 24 15 = false := by kernel_rfl
@[simp] theorem site_24_21 (x : ExtF) : (EX x).site 24 21 = false := by kernel_rfl
@[simp] theorem site_24_26 (x : ExtF) : (EX x).site 24 26 = false := by kernel_rfl
@[simp] theorem site_24_42 (x : ExtF) : (EX x).site 24 42 = false := by kernel_rfl
@[simp] theorem site_24_43 (x : ExtF) : (EX x).site 24 43 = false := by kernel_rfl
@[simp] theorem site_24_46 (x : ExtF) : (EX x).site 24 46 = false := by kernel_rfl
@[simp] theorem site_25_9 (x : ExtF) : (EX x).site 25 9 = false := by kernel_rfl
@[simp] theorem site_25_17 (x : ExtF) : (EX x).site 25 17 = false := by kernel_rfl
@[simp] theorem site_27_6 (x : ExtF) : (EX x).site 27 6 = false := by kernel_rfl
@[simp] theorem site_28_9 (x : ExtF) : (EX x).site 28 9 = false := by kernel_rfl
@[simp] theorem site_28_34 (x : ExtF) : (EX x).site 28 34 = false := by kernel_rfl
@[simp] theorem site_28_35 (x : ExtF) : (EX x).site 28 35 = false := by kernel_rfl
@[simp] theorem site_30_13 (x : ExtF) : (EX x).site 30 13 = false := by kernel_rfl
@[simp] theorem site_30_30 (x : ExtF) : (EX x).site 30 30 = false := by kernel_rfl
@[simp] theorem site_30_46 (x : ExtF) : (EX x).site 30 46 = false := by kernel_rfl
@[simp] theorem site_31_2 (x : ExtF) : (EX x).site 31 2 = false := by kernel_rfl
@[simp] theorem site_32_8 (x : ExtF) : (EX x).site 32 8 = false := by kernel_rfl
@[simp] theorem site_32_26 (x : ExtF) : (EX x).site 32 26 = false := by kernel_rfl
@[simp] theorem site_34_7 (x : ExtF) : (EX x).site 34 7 = false := by kernel_rfl
@[simp] theorem site_34_9 (x : ExtF) : (EX x).site 34 9 = false := by kernel_rfl
@[simp] theorem site_34_12 (x : ExtF) : (EX x).site 34 12 = false := by kernel_rfl
@[simp] theorem site_35_5 (x : ExtF) : (EX x).site 35 5 = true := by kernel_rfl
@[simp] theorem site_35_6 (x : ExtF) : (EX x).site 35 6 = true := by kernel_rfl
@[simp] theorem site_35_10 (x : ExtF) : (EX x).site 35 10 = false := by kernel_rfl
@[simp] theorem site_35_12 (x : ExtF) : (EX x).site 35 12 = false := by kernel_rfl
@[simp] theorem site_35_13 (x : ExtF) : (EX x).site 35 13 = false := by kernel_rfl
@[simp] theorem site_35_20 (x : ExtF) : (EX x).site 35 20 = false := by kernel_rfl
@[simp] theorem site_39_5 (x : ExtF) : (EX x).site 39 5 = false := by kernel_rfl
@[simp] theorem site_39_7 (x : ExtF) : (EX x).site 39 7 = false := by kernel_rfl
@[simp] theorem site_44_8 (x : ExtF) : (EX x).site 44 8 = false := by kernel_rfl
@[simp] theorem site_44_10 (x : ExtF) : (EX x).site 44 10 = false := by kernel_rfl
@[simp] theorem site_44_14 (x : ExtF) : (EX x).site 44 14 = false := by kernel_rfl
@[simp] theorem site_44_28 (x : ExtF) : (EX x).site 44 28 = false := by kernel_rfl
@[simp] theorem site_44_29 (x : ExtF) : (EX x).site 44 29 = false := by kernel_rfl
@[simp] theorem site_44_36 (x : ExtF) : (EX x).site 44 36 = false := by kernel_rfl
@[simp] theorem site_44_40 (x : ExtF) : (EX x).site 44 40 = false := by kernel_rfl
@[simp] theorem site_44_47 (x : ExtF) : (EX x).site 44 47 = false := by kernel_rfl
@[simp] theorem site_44_52 (x : ExtF) : (EX x).site 44 52 = false := by kernel_rfl
@[simp] theorem site_44_65 (x : ExtF) : (EX x).site 44 65 = false := by kernel_rfl
@[simp] theorem site_44_66 (x : ExtF) : (EX x).site 44 66 = false := by kernel_rfl
@[simp] theorem site_44_71 (x : ExtF) : (EX x).site 44 71 = false := by kernel_rfl
@[simp] theorem site_44_78 (x : ExtF) : (EX x).site 44 78 = false := by kernel_rfl
@[simp] theorem site_44_83 (x : ExtF) : (EX x).site 44 83 = false := by kernel_rfl
@[simp] theorem site_44_95 (x : ExtF) : (EX x).site 44 95 = false := by kernel_rfl
@[simp] theorem site_44_96 (x : ExtF) : (EX x).site 44 96 = false := by kernel_rfl
@[simp] theorem site_45_1 (x : ExtF) : (EX x).site 45 1 = false := by kernel_rfl
@[simp] theorem site_46_5 (x : ExtF) : (EX x).site 46 5 = false := by kernel_rfl
@[simp] theorem site_46_6 (x : ExtF) : (EX x).site 46 6 = false := by kernel_rfl
@[simp] theorem site_46_14 (x : ExtF) : (EX x).site 46 14 = false := by kernel_rfl
@[simp] theorem site_46_21 (x : ExtF) : (EX x).site 46 21 = false := by kernel_rfl
@[simp] theorem site_46_22 (x : ExtF) : (EX x).site 46 22 = true := by kernel_rfl
@[simp] theorem pure_3_22 (x : ExtF) : (EX x).pureApp 3 22 = false := by kernel_rfl
@[simp] theorem pure_3_26 (x : ExtF) : (EX x).pureApp 3 26 = false := by kernel_rfl
@[simp] theorem pure_3_29 (x : ExtF) : (EX x).pureApp 3 29 = false := by kernel_rfl
@[simp] theorem pure_3_31 (x : ExtF) : (EX x).pureApp 3 31 = true := by kernel_rfl
@[simp] theorem pure_3_34 (x : ExtF) : (EX x).pureApp 3 34 = true := by kernel_rfl
@[simp] theorem pure_3_39 (x : ExtF) : (EX x).pureApp 3 39 = false := by kernel_rfl
@[simp] theorem pure_3_45 (x : ExtF) : (EX x).pureApp 3 45 = false := by kernel_rfl
@[simp] theorem pure_3_51 (x : ExtF) : (EX x).pureApp 3 51 = false := by kernel_rfl
@[simp] theorem pure_3_56 (x : ExtF) : (EX x).pureApp 3 56 = false := by kernel_rfl
@[simp] theorem pure_3_61 (x : ExtF) : (EX x).pureApp 3 61 = false := by kernel_rfl
@[simp] theorem pure_3_66 (x : ExtF) : (EX x).pureApp 3 66 = false := by kernel_rfl
@[simp] theorem pure_3_95 (x : ExtF) : (EX x).pureApp 3 95 = false := by kernel_rfl
@[simp] theorem pure_3_97 (x : ExtF) : (EX x).pureApp 3 97 = false := by kernel_rfl
@[simp] theorem pure_3_103 (x : ExtF) : (EX x).pureApp 3 103 = false := by kernel_rfl
@[simp] theorem pure_3_106 (x : ExtF) : (EX x).pureApp 3 106 = false := by kernel_rfl
@[simp] theorem pure_3_112 (x : ExtF) : (EX x).pureApp 3 112 = false := by kernel_rfl
@[simp] theorem pure_4_24 (x : ExtF) : (EX x).pureApp 4 24 = false := by kernel_rfl
@[simp] theorem pure_4_26 (x : ExtF) : (EX x).pureApp 4 26 = false := by kernel_rfl
@[simp] theorem pure_4_30 (x : ExtF) : (EX x).pureApp 4 30 = false := by kernel_rfl
@[simp] theorem pure_4_35 (x : ExtF) : (EX x).pureApp 4 35 = false := by kernel_rfl
@[simp] theorem pure_4_40 (x : ExtF) : (EX x).pureApp 4 40 = false := by kernel_rfl
@[simp] theorem pure_4_59 (x : ExtF) : (EX x).pureApp 4 59 = true := by kernel_rfl
@[simp] theorem pure_4_65 (x : ExtF) : (EX x).pureApp 4 65 = true := by kernel_rfl
@[simp] theorem pure_4_71 (x : ExtF) : (EX x).pureApp 4 71 = true := by kernel_rfl
@[simp] theorem pure_4_77 (x : ExtF) : (EX x).pureApp 4 77 = false := by kernel_rfl
@[simp] theorem pure_4_83 (x : ExtF) : (EX x).pureApp 4 83 = false := by kernel_rfl
@[simp] theorem pure_4_89 (x : ExtF) : (EX x).pureApp 4 89 = false := by kernel_rfl
@[simp] theorem pure_4_95 (x : ExtF) : (EX x).pureApp 4 95 = false := by kernel_rfl
@[simp] theorem pure_4_101 (x : ExtF) : (EX x).pureApp 4 101 = false := by kernel_rfl
@[simp] theorem pure_4_109 (x : ExtF) : (EX x).pureApp 4 109 = false := by kernel_rfl
@[simp] theorem pure_4_116 (x : ExtF) : (EX x).pureApp 4 116 = false := by kernel_rfl
@[simp] theorem pure_4_122 (x : ExtF) : (EX x).pureApp 4 122 = false := by kernel_rfl
@[simp] theorem pure_5_18 (x : ExtF) : (EX x).pureApp 5 18 = false := by kernel_rfl
@[simp] theorem pure_5_20 (x : ExtF) : (EX x).pureApp 5 20 = false := by kernel_rfl
@[simp] theorem pure_5_24 (x : ExtF) : (EX x).pureApp 5 24 = false := by kernel_rfl
@[simp] theorem pure_5_34 (x : ExtF) : (EX x).pureApp 5 34 = false := by kernel_rfl
@[simp] theorem pure_5_41 (x : ExtF) : (EX x).pureApp 5 41 = true := by kernel_rfl
@[simp] theorem pure_5_43 (x : ExtF) : (EX x).pureApp 5 43 = false := by kernel_rfl
@[simp] theorem pure_5_48 (x : ExtF) : (EX x).pureApp 5 48 = true := by kernel_rfl
@[simp] theorem pure_5_56 (x : ExtF) : (EX x).pureApp 5 56 = false := by kernel_rfl
@[simp] theorem pure_5_61 (x : ExtF) : (EX x).pureApp 5 61 = false := by kernel_rfl
@[simp] theorem pure_5_66 (x : ExtF) : (EX x).pureApp 5 66 = false := by kernel_rfl
@[simp] theorem pure_5_72 (x : ExtF) : (EX x).pureApp 5 72 = false := by kernel_rfl
@[simp] theorem pure_5_108 (x : ExtF) : (EX x).pureApp 5 108 = false := by kernel_rfl
@[simp] theorem pure_5_118 (x : ExtF) : (EX x).pureApp 5 118 = false := by kernel_rfl
@[simp] theorem pure_5_134 (x : ExtF) : (EX x).pureApp 5 134 = false := by kernel_rfl
@[simp] theorem pure_6_41 (x : ExtF) : (EX x).pureApp 6 41 = false := by kernel_rfl
@[simp] theorem pure_6_43 (x : ExtF) : (EX x).pureApp 6 43 = false := by kernel_rfl
@[simp] theorem pure_6_47 (x : ExtF) : (EX x).pureApp 6 47 = false := by kernel_rfl
@[simp] theorem pure_6_52 (x : ExtF) : (EX x).pureApp 6 52 = false := by kernel_rfl
@[simp] theorem pure_6_57 (x : ExtF) : (EX x).pureApp 6 57 = false := by kernel_rfl
@[simp] theorem pure_6_62 (x : ExtF) : (EX x).pureApp 6 62 = false := by kernel_rfl
@[simp] theorem pure_6_67 (x : ExtF) : (EX x).pureApp 6 67 = false := by kernel_rfl
@[simp] theorem pure_6_78 (x : ExtF) : (EX x).pureApp 6 78 = true := by kernel_rfl
@[simp] theorem pure_6_84 (x : ExtF) : (EX x).pureApp 6 84 = true := by kernel_rfl
@[simp] theorem pure_6_90 (x : ExtF) : (EX x).pureApp 6 90 = true := by kernel_rfl
@[simp] theorem pure_6_96 (x : ExtF) : (EX x).pureApp 6 96 = true := by kernel_rfl
@[simp] theorem pure_6_102 (x : ExtF) : (EX x).pureApp 6 102 = true := by kernel_rfl
@[simp] theorem pure_6_108 (x : ExtF) : (EX x).pureApp 6 108 = true := by kernel_rfl
@[simp] theorem pure_6_114 (x : ExtF) : (EX x).pureApp 6 114 = true := by kernel_rfl
@[simp] theorem pure_6_120 (x : ExtF) : (EX x).pureApp 6 120 = true := by kernel_rfl
@[simp] theorem pure_6_126 (x : ExtF) : (EX x).pureApp 6 126 = true := by kernel_rfl
@[simp] theorem pure_6_132 (x : ExtF) : (EX x).pureApp 6 132 = true := by kernel_rfl
@[simp] theorem pure_6_138 (x : ExtF) : (EX x).pureApp 6 138 = true := by kernel_rfl
@[simp] theorem pure_6_144 (x : ExtF) : (EX x).pureApp 6 144 = true := by kernel_rfl
@[simp] theorem pure_6_149 (x : ExtF) : (EX x).pureApp 6 149 = false := by kernel_rfl
@[simp] theorem pure_6_154 (x : ExtF) : (EX x).pureApp 6 154 = false := by kernel_rfl
@[simp] theorem pure_6_159 (x : ExtF) : (EX x).pureApp 6 159 = false := by kernel_rfl
@[simp] theorem pure_6_164 (x : ExtF) : (EX x).pureApp 6 164 = false := by kernel_rfl
@[simp] theorem pure_6_169 (x : ExtF) : (EX x).pureApp 6 169 = false := by kernel_rfl
@[simp] theorem pure_6_173 (x : ExtF) : (EX x).pureApp 6 173 = false := by kernel_rfl
@[simp] theorem pure_6_178 (x : ExtF) : (EX x).pureApp 6 178 = false := by kernel_rfl
@[simp] theorem pure_6_183 (x : ExtF) : (EX x).pureApp 6 183 = false := by kernel_rfl
@[simp] theorem pure_6_188 (x : ExtF) : (EX x).pureApp 6 188 = false := by kernel_rfl
@[simp] theorem pure_9_5 (x : ExtF) : (EX x).pureApp 9 5 = false := by kernel_rfl
@[simp] theorem pure_9_8 (x : ExtF) : (EX x).pureApp 9 8 = true := by kernel_rfl
@[simp] theorem pure_10_10 (x : ExtF) : (EX x).pureApp 10 10 = false := by kernel_rfl
@[simp] theorem pure_10_15 (x : ExtF) : (EX x).pureApp 10 15 = false := by kernel_rfl
@[simp] theorem pure_10_21 (x : ExtF) : (EX x).pureApp 10 21 = false := by kernel_rfl
@[simp] theorem pure_11_7 (x : ExtF) : (EX x).pureApp 11 7 = false := by kernel_rfl
@[simp] theorem pure_11_17 (x : ExtF) : (EX x).pureApp 11 17 = false := by kernel_rfl
@[simp] theorem pure_12_6 (x : ExtF) : (EX x).pureApp 12 6 = false := by kernel_rfl
@[simp] theorem pure_12_8 (x : ExtF) : (EX x).pureApp 12 8 = false := by kernel_rfl
@[simp] theorem pure_12_13 (x : ExtF) : (EX x).pureApp 12 13 = false := by kernel_rfl
@[simp] theorem pure_12_21 (x : ExtF) : (EX x).pureApp 12 21 = false := by kernel_rfl
@[simp] theorem pure_13_5 (x : ExtF) : (EX x).pureApp 13 5 = false := by kernel_rfl
@[simp] theorem pure_13_8 (x : ExtF) : (EX x).pureApp 13 8 = true := by kernel_rfl
@[simp] theorem pure_13_9 (x : ExtF) : (EX x).pureApp 13 9 = false := by kernel_rfl
@[simp] theorem pure_14_7 (x : ExtF) : (EX x).pureApp 14 7 = false := by kernel_rfl
@[simp] theorem pure_14_9 (x : ExtF) : (EX x).pureApp 14 9 = false := by kernel_rfl
@[simp] theorem pure_14_13 (x : ExtF) : (EX x).pureApp 14 13 = false := by kernel_rfl
@[simp] theorem pure_16_4 (x : ExtF) : (EX x).pureApp 16 4 = false := by kernel_rfl
@[simp] theorem pure_17_7 (x : ExtF) : (EX x).pureApp 17 7 = false := by kernel_rfl
@[simp] theorem pure_18_7 (x : ExtF) : (EX x).pureApp 18 7 = false := by kernel_rfl
@[simp] theorem pure_18_9 (x : ExtF) : (EX x).pureApp 18 9 = false := by kernel_rfl
@[simp] theorem pure_18_13 (x : ExtF) : (EX x).pureApp 18 13 = false := by kernel_rfl
@[simp] theorem pure_19_10 (x : ExtF) : (EX x).pureApp 19 10 = false := by kernel_rfl
@[simp] theorem pure_19_11 (x : ExtF) : (EX x).pureApp 19 11 = false := by kernel_rfl
@[simp] theorem pure_19_12 (x : ExtF) : (EX x).pureApp 19 12 = false := by kernel_rfl
@[simp] theorem pure_19_13 (x : ExtF) : (EX x).pureApp 19 13 = false := by kernel_rfl
@[simp] theorem pure_19_17 (x : ExtF) : (EX x).pureApp 19 17 = false := by kernel_rfl
@[simp] theorem pure_19_23 (x : ExtF) : (EX x).pureApp 19 23 = false := by kernel_rfl
@[simp] theorem pure_19_29 (x : ExtF) : (EX x).pureApp 19 29 = false := by kernel_rfl
@[simp] theorem pure_19_32 (x : ExtF) : (EX x).pureApp 19 32 = false := by kernel_rfl
@[simp] theorem pure_19_33 (x : ExtF) : (EX x).pureApp 19 33 = false := by kernel_rfl
@[simp] theorem pure_19_37 (x : ExtF) : (EX x).pureApp 19 37 = false := by kernel_rfl
@[simp] theorem pure_19_38 (x : ExtF) : (EX x).pureApp 19 38 = false := by kernel_rfl
@[simp] theorem pure_19_45 (x : ExtF) : (EX x).pureApp 19 45 = false := by kernel_rfl
@[simp] theorem pure_19_46 (x : ExtF) : (EX x).pureApp 19 46 = false := by kernel_rfl
@[simp] theorem pure_19_54 (x : ExtF) : (EX x).pureApp 19 54 = false := by kernel_rfl
@[simp] theorem pure_19_55 (x : ExtF) : (EX x).pureApp 19 55 = false := by kernel_rfl
@[simp] theorem pure_19_63 (x : ExtF) : (EX x).pureApp 19 63 = false := by kernel_rfl
@[simp] theorem pure_19_64 (x : ExtF) : (EX x).pureApp 19 64 = false := by kernel_rfl
@[simp] theorem pure_20_8 (x : ExtF) : (EX x).pureApp 20 8 = false := by kernel_rfl
@[simp] theorem pure_21_8 (x : ExtF) : (EX x).pureApp 21 8 = false := by kernel_rfl
@[simp] theorem pure_22_8 (x : ExtF) : (EX x).pureApp 22 8 = false := by kernel_rfl
@[simp] theorem pure_23_7 (x : ExtF) : (EX x).pureApp 23 7 = false := by kernel_rfl
@[simp] theorem pure_24_11 (x : ExtF) : (EX x).pureApp 24 11 = false := by kernel_rfl
@[simp] theorem pure_24_13 (x : ExtF) : (EX x).pureApp 24 13 = false := by kernel_rfl
@[simp] theorem pure_24_15 (x : ExtF) : (EX x).pureApp 24 15 = false := by kernel_rfl
@[simp] theorem pure_24_21 (x : ExtF) : (EX x).pureApp 24 21 = false := by kernel_rfl
@[simp] theorem pure_24_26 (x : ExtF) : (EX x).pureApp 24 26 = false := by kernel_rfl
@[simp] theorem pure_24_42 (x : ExtF) : (EX x).pureApp 24 42 = false := by kernel_rfl
@[simp] theorem pure_24_43 (x : ExtF) : (EX x).pureApp 24 43 = false := by kernel_rfl
@[simp] theorem pure_24_46 (x : ExtF) : (EX x).pureApp 24 46 = false := by kernel_rfl
@[simp] theorem pure_25_9 (x : ExtF) : (EX x).pureApp 25 9 = false := by kernel_rfl
@[simp] theorem pure_25_17 (x : ExtF) : (EX x).pureApp 25 17 = false := by kernel_rfl
@[simp] theorem pure_27_6 (x : ExtF) : (EX x).pureApp 27 6 = false := by kernel_rfl
@[simp] theorem pure_28_9 (x : ExtF) : (EX x).pureApp 28 9 = false := by kernel_rfl
@[simp] theorem pure_28_34 (x : ExtF) : (EX x).pureApp 28 34 = false := by kernel_rfl
@[simp] theorem pure_28_35 (x : ExtF) : (EX x).pureApp 28 35 = false := by kernel_rfl
@[simp] theorem pure_30_13 (x : ExtF) : (EX x).pureApp 30 13 = false := by kernel_rfl
@[simp] theorem pure_30_30 (x : ExtF) : (EX x).pureApp 30 30 = false := by kernel_rfl
@[simp] theorem pure_30_46 (x : ExtF) : (EX x).pureApp 30 46 = false := by kernel_rfl
@[simp] theorem pure_31_2 (x : ExtF) : (EX x).pureApp 31 2 = false := by kernel_rfl
@[simp] theorem pure_32_8 (x : ExtF) : (EX x).pureApp 32 8 = false := by kernel_rfl
@[simp] theorem pure_32_26 (x : ExtF) : (EX x).pureApp 32 26 = false := by kernel_rfl
@[simp] theorem pure_34_7 (x : ExtF) : (EX x).pureApp 34 7 = false := by kernel_rfl
@[simp] theorem pure_34_9 (x : ExtF) : (EX x).pureApp 34 9 = false := by kernel_rfl
@[simp] theorem pure_34_12 (x : ExtF) : (EX x).pureApp 34 12 = false := by kernel_rfl
@[simp] theorem pure_35_5 (x : ExtF) : (EX x).pureApp 35 5 = false := by kernel_rfl
@[simp] theorem pure_35_6 (x : ExtF) : (EX x).pureApp 35 6 = false := by kernel_rfl
@[simp] theorem pure_35_10 (x : ExtF) : (EX x).pureApp 35 10 = false := by kernel_rfl
@[simp] theorem pure_35_12 (x : ExtF) : (EX x).pureApp 35 12 = false := by kernel_rfl
@[simp] theorem pure_35_13 (x : ExtF) : (EX x).pureApp 35 13 = false := by kernel_rfl
@[simp] theorem pure_35_20 (x : ExtF) : (EX x).pureApp 35 20 = false := by kernel_rfl
@[simp] theorem pure_39_5 (x : ExtF) : (EX x).pureApp 39 5 = false := by kernel_rfl
@[simp] theorem pure_39_7 (x : ExtF) : (EX x).pureApp 39 7 = false := by kernel_rfl
@[simp] theorem pure_44_8 (x : ExtF) : (EX x).pureApp 44 8 = false := by kernel_rfl
@[simp] theorem pure_44_10 (x : ExtF) : (EX x).pureApp 44 10 = false := by kernel_rfl
@[simp] theorem pure_44_14 (x : ExtF) : (EX x).pureApp 44 14 = false := by kernel_rfl
@[simp] theorem pure_44_28 (x : ExtF) : (EX x).pureApp 44 28 = false := by kernel_rfl
@[simp] theorem pure_44_29 (x : ExtF) : (EX x).pureApp 44 29 = false := by kernel_rfl
@[simp] theorem pure_44_36 (x : ExtF) : (EX x).pureApp 44 36 = false := by kernel_rfl
@[simp] theorem pure_44_40 (x : ExtF) : (EX x).pureApp 44 40 = false := by kernel_rfl
@[simp] theorem pure_44_47 (x : ExtF) : (EX x).pureApp 44 47 = false := by kernel_rfl
@[simp] theorem pure_44_52 (x : ExtF) : (EX x).pureApp 44 52 = false := by kernel_rfl
@[simp] theorem pure_44_65 (x : ExtF) : (EX x).pureApp 44 65 = false := by kernel_rfl
@[simp] theorem pure_44_66 (x : ExtF) : (EX x).pureApp 44 66 = false := by kernel_rfl
@[simp] theorem pure_44_71 (x : ExtF) : (EX x).pureApp 44 71 = false := by kernel_rfl
@[simp] theorem pure_44_78 (x : ExtF) : (EX x).pureApp 44 78 = false := by kernel_rfl
@[simp] theorem pure_44_83 (x : ExtF) : (EX x).pureApp 44 83 = false := by kernel_rfl
@[simp] theorem pure_44_95 (x : ExtF) : (EX x).pureApp 44 95 = false := by kernel_rfl
@[simp] theorem pure_44_96 (x : ExtF) : (EX x).pureApp 44 96 = false := by kernel_rfl
@[simp] theorem pure_45_1 (x : ExtF) : (EX x).pureApp 45 1 = false := by kernel_rfl
@[simp] theorem pure_46_5 (x : ExtF) : (EX x).pureApp 46 5 = false := by kernel_rfl
@[simp] theorem pure_46_6 (x : ExtF) : (EX x).pureApp 46 6 = false := by kernel_rfl
@[simp] theorem pure_46_14 (x : ExtF) : (EX x).pureApp 46 14 = false := by kernel_rfl
@[simp] theorem pure_46_21 (x : ExtF) : (EX x).pureApp 46 21 = false := by kernel_rfl
@[simp] theorem pure_46_22 (x : ExtF) : (EX x).pureApp 46 22 = false := by kernel_rfl
@[simp] theorem bsl_23_1 (x : ExtF) {base f d : Nat} {m : Mem} {a : AVal} (hs : (EX x).site f d = false) (hl : a.cells.length = 2) (hf : a.cells.all AVal.fixed = true) : bsl (EX x) base f d m 23 1 (some [(0, a)]) = some (.sl [a.cells], none) := bsl_one m hs (e_E_elemOf_23 _) (e_E_size_52 _) (e_E_zero_52 _) rfl (by decide) (by decide) hl hf
@[simp] theorem bsl_23_0 (x : ExtF) {base f d : Nat} {m : Mem} : bsl (EX x) base f d m 23 0 (some []) = some (.e0, none) := bsl_nil m _ _ (e_E_elemOf_23 _) (by simp) (by simp)
@[simp] theorem bsl_24_1 (x : ExtF) {base f d : Nat} {m : Mem} {a : AVal} (hs : (EX x).site f d = false) (hl : a.cells.length = 1) (hf : a.cells.all AVal.fixed = true) : bsl (EX x) base f d m 24 1 (some [(0, a)]) = some (.sl [a.cells], none) := bsl_one m hs (e_E_elemOf_24 _) (e_E_size_3 _) (e_E_zero_3 _) rfl (by decide) (by decide) hl hf
@[simp] theorem bsl_24_0 (x : ExtF) {base f d : Nat} {m : Mem} : bsl (EX x) base f d m 24 0 (some []) = some (.e0, none) := bsl_nil m _ _ (e_E_elemOf_24 _) (by simp) (by simp)
@[simp] theorem eff_3 (x : ExtF) : (EX x).eff 3 = false := by kernel_rfl
@[simp] theorem eff_4 (x : ExtF) : (EX x).eff 4 = false := by kernel_rfl
@[simp] theorem eff_5 (x : ExtF) : (EX x).eff 5 = false := by kernel_rfl
@[simp] theorem eff_6 (x : ExtF) : (EX x).eff 6 = false := by kernel_rfl
@[simp] theorem eff_8 (x : ExtF) : (EX x).eff 8 = false := by kernel_rfl
@[simp] theorem eff_9 (x : ExtF) : (EX x).eff 9 = false := by kernel_rfl
@[simp] theorem eff_10 (x : ExtF) : (EX x).eff 10 = false := by kernel_rfl
@[simp] theorem eff_11 (x : ExtF) : (EX x).eff 11 = false := by kernel_rfl
@[simp] theorem eff_12 (x : ExtF) : (EX x).eff 12 = false := by kernel_rfl
@[simp] theorem eff_13 (x : ExtF) : (EX x).eff 13 = false := by kernel_rfl
@[simp] theorem eff_14 (x : ExtF) : (EX x).eff 14 = false := by kernel_rfl
@[simp] theorem eff_15 (x : ExtF) : (EX x).eff 15 = false := by kernel_rfl
@[simp] theorem eff_16 (x : ExtF) : (EX x).eff 16 = false := by kernel_rfl
@[simp] theorem eff_17 (x : ExtF) : (EX x).eff 17 = false := by kernel_rfl
@[simp] theorem eff_18 (x : ExtF) : (EX x).eff 18 = false := by kernel_rfl
@[simp] theorem eff_19 (x : ExtF) : (EX x).eff 19 = false := by kernel_rfl
@[simp] theorem eff_20 (x : ExtF) : (EX x).eff 20 = false := by kernel_rfl
@[simp] theorem eff_21 (x : ExtF) : (EX x).eff 21 = false := by kernel_rfl
@[simp] theorem eff_22 (x : ExtF) : (EX x).eff 22 = false := by kernel_rfl
@[simp] theorem eff_23 (x : ExtF) : (EX x).eff 23 = false := by kernel_rfl
@[simp] theorem eff_24 (x : ExtF) : (EX x).eff 24 = false := by kernel_rfl
@[simp] theorem eff_25 (x : ExtF) : (EX x).eff 25 = false := by kernel_rfl
@[simp] theorem eff_27 (x : ExtF) : (EX x).eff 27 = false := by kernel_rfl
@[simp] theorem eff_28 (x : ExtF) : (EX x).eff 28 = false := by kernel_rfl
@[simp] theorem eff_29 (x : ExtF) : (EX x).eff 29 = false := by kernel_rfl
@[simp] theorem eff_30 (x : ExtF) : (EX x).eff 30 = false := by kernel_rfl
@[simp] theorem eff_31 (x : ExtF) : (EX x).eff 31 = false := by kernel_rfl
@[simp] theorem eff_32 (x : ExtF) : (EX x).eff 32 = false := by kernel_rfl
@[simp] theorem eff_33 (x : ExtF) : (EX x).eff 33 = false := by kernel_rfl
@[simp] theorem eff_34 (x : ExtF) : (EX x).eff 34 = false := by kernel_rfl
@[simp] theorem eff_35 (x : ExtF) : (EX x).eff 35 = false := by kernel_rfl
@[simp] theorem eff_36 (x : ExtF) : (EX x).eff 36 = false := by kernel_rfl
@[simp] theorem eff_37 (x : ExtF) : (EX x).eff 37 = false := by kernel_rfl
@[simp] theorem eff_38 (x : ExtF) : (EX x).eff 38 = false := by kernel_rfl
@[simp] theorem eff_39 (x : ExtF) : (EX x).eff 39 = false := by kernel_rfl
@[simp] theorem eff_40 (x : ExtF) : (EX x).eff 40 = true := by kernel_rfl
@[simp] theorem eff_43 (x : ExtF) : (EX x).eff 43 = false := by kernel_rfl
@[simp] theorem eff_44 (x : ExtF) : (EX x).eff 44 = true := by kernel_rfl
@[simp] theorem eff_45 (x : ExtF) : (EX x).eff 45 = false := by kernel_rfl
@[simp] theorem eff_46 (x : ExtF) : (EX x).eff 46 = true := by kernel_rfl
end Go.Proofs.YtjcgaelibiiiiaaDoor
