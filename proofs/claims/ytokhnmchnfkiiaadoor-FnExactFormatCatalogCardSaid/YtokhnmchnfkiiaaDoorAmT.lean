/- Facts about the types of the program. No conditions. -/
import Derived.Test.YtokhnmchnfkiiaaDoorProg
import Derived.Test.YtokhnmchnfkiiaaDoorAmS
namespace Go.Proofs.YtokhnmchnfkiiaaDoor.Am
open Go Go.RowKit Go.Proofs
set_option linter.unusedSimpArgs false
set_option linter.unusedVariables false
section
variable (own verT wr : Nat → Bool) (md : Nat)
theorem t2_csz : Cfg.csz ⟨Tryd.prog, own, verT, wr, md⟩ 2 = some 1 := by kernel_rfl
theorem t2_bts : Cfg.bts ⟨Tryd.prog, own, verT, wr, md⟩ 2 = some 8 := by kernel_rfl
theorem t2_ag : Cfg.isAg ⟨Tryd.prog, own, verT, wr, md⟩ 2 = some false := by kernel_rfl
theorem t2_str : Cfg.isStr ⟨Tryd.prog, own, verT, wr, md⟩ 2 = false := by kernel_rfl
theorem t2_int : Cfg.intK ⟨Tryd.prog, own, verT, wr, md⟩ 2 = some .i64 := by kernel_rfl
theorem t2_elem : Cfg.elemT ⟨Tryd.prog, own, verT, wr, md⟩ 2 = none := by kernel_rfl
theorem t2_zok : Cfg.zerOK ⟨Tryd.prog, own, verT, wr, md⟩ 2 = true := by kernel_rfl
theorem t2_zer : Cfg.zer ⟨Tryd.prog, own, verT, wr, md⟩ 2 = some [.v (.int .i64 0)] := by kernel_rfl
theorem t2_some : (Tryd.prog.underlying 2).isSome = true := by kernel_rfl
theorem t3_csz : Cfg.csz ⟨Tryd.prog, own, verT, wr, md⟩ 3 = some 1 := by kernel_rfl
theorem t3_bts : Cfg.bts ⟨Tryd.prog, own, verT, wr, md⟩ 3 = some 8 := by kernel_rfl
theorem t3_ag : Cfg.isAg ⟨Tryd.prog, own, verT, wr, md⟩ 3 = some false := by kernel_rfl
theorem t3_str : Cfg.isStr ⟨Tryd.prog, own, verT, wr, md⟩ 3 = false := by kernel_rfl
theorem t3_int : Cfg.intK ⟨Tryd.prog, own, verT, wr, md⟩ 3 = some .i64 := by kernel_rfl
theorem t3_elem : Cfg.elemT ⟨Tryd.prog, own, verT, wr, md⟩ 3 = none := by kernel_rfl
theorem t3_zok : Cfg.zerOK ⟨Tryd.prog, own, verT, wr, md⟩ 3 = true := by kernel_rfl
theorem t3_zer : Cfg.zer ⟨Tryd.prog, own, verT, wr, md⟩ 3 = some [.v (.int .i64 0)] := by kernel_rfl
theorem t3_some : (Tryd.prog.underlying 3).isSome = true := by kernel_rfl
theorem t4_csz : Cfg.csz ⟨Tryd.prog, own, verT, wr, md⟩ 4 = some 1 := by kernel_rfl
theorem t4_bts : Cfg.bts ⟨Tryd.prog, own, verT, wr, md⟩ 4 = some 1 := by kernel_rfl
theorem t4_ag : Cfg.isAg ⟨Tryd.prog, own, verT, wr, md⟩ 4 = some false := by kernel_rfl
theorem t4_str : Cfg.isStr ⟨Tryd.prog, own, verT, wr, md⟩ 4 = false := by kernel_rfl
theorem t4_bool : Cfg.isBool ⟨Tryd.prog, own, verT, wr, md⟩ 4 = true := by kernel_rfl
theorem t4_elem : Cfg.elemT ⟨Tryd.prog, own, verT, wr, md⟩ 4 = none := by kernel_rfl
theorem t4_zok : Cfg.zerOK ⟨Tryd.prog, own, verT, wr, md⟩ 4 = true := by kernel_rfl
theorem t4_zer : Cfg.zer ⟨Tryd.prog, own, verT, wr, md⟩ 4 = some [.v (.bool false)] := by kernel_rfl
theorem t4_some : (Tryd.prog.underlying 4).isSome = true := by kernel_rfl
theorem t5_csz : Cfg.csz ⟨Tryd.prog, own, verT, wr, md⟩ 5 = some 1 := by kernel_rfl
theorem t5_bts : Cfg.bts ⟨Tryd.prog, own, verT, wr, md⟩ 5 = some 1 := by kernel_rfl
theorem t5_ag : Cfg.isAg ⟨Tryd.prog, own, verT, wr, md⟩ 5 = some false := by kernel_rfl
theorem t5_str : Cfg.isStr ⟨Tryd.prog, own, verT, wr, md⟩ 5 = false := by kernel_rfl
theorem t5_int : Cfg.intK ⟨Tryd.prog, own, verT, wr, md⟩ 5 = some .u8 := by kernel_rfl
theorem t5_elem : Cfg.elemT ⟨Tryd.prog, own, verT, wr, md⟩ 5 = none := by kernel_rfl
theorem t5_zok : Cfg.zerOK ⟨Tryd.prog, own, verT, wr, md⟩ 5 = true := by kernel_rfl
theorem t5_zer : Cfg.zer ⟨Tryd.prog, own, verT, wr, md⟩ 5 = some [.v (.int .u8 0)] := by kernel_rfl
theorem t5_some : (Tryd.prog.underlying 5).isSome = true := by kernel_rfl
theorem t6_csz : Cfg.csz ⟨Tryd.prog, own, verT, wr, md⟩ 6 = some 1 := by kernel_rfl
theorem t6_bts : Cfg.bts ⟨Tryd.prog, own, verT, wr, md⟩ 6 = some 1 := by kernel_rfl
theorem t6_ag : Cfg.isAg ⟨Tryd.prog, own, verT, wr, md⟩ 6 = some false := by kernel_rfl
theorem t6_str : Cfg.isStr ⟨Tryd.prog, own, verT, wr, md⟩ 6 = false := by kernel_rfl
theorem t6_int : Cfg.intK ⟨Tryd.prog, own, verT, wr, md⟩ 6 = some .u8 := by kernel_rfl
theorem t6_elem : Cfg.elemT ⟨Tryd.prog, own, verT, wr, md⟩ 6 = none := by kernel_rfl
theorem t6_zok : Cfg.zerOK ⟨Tryd.prog, own, verT, wr, md⟩ 6 = true := by kernel_rfl
theorem t6_zer : Cfg.zer ⟨Tryd.prog, own, verT, wr, md⟩ 6 = some [.v (.int .u8 0)] := by kernel_rfl
theorem t6_some : (Tryd.prog.underlying 6).isSome = true := by kernel_rfl
theorem t7_csz : Cfg.csz ⟨Tryd.prog, own, verT, wr, md⟩ 7 = some 4 := by kernel_rfl
theorem t7_bts : Cfg.bts ⟨Tryd.prog, own, verT, wr, md⟩ 7 = some 24 := by kernel_rfl
theorem t7_ag : Cfg.isAg ⟨Tryd.prog, own, verT, wr, md⟩ 7 = some true := by kernel_rfl
theorem t7_str : Cfg.isStr ⟨Tryd.prog, own, verT, wr, md⟩ 7 = false := by kernel_rfl
theorem t7_elem : Cfg.elemT ⟨Tryd.prog, own, verT, wr, md⟩ 7 = none := by kernel_rfl
theorem t7_zok : Cfg.zerOK ⟨Tryd.prog, own, verT, wr, md⟩ 7 = true := by kernel_rfl
theorem t7_zer : Cfg.zer ⟨Tryd.prog, own, verT, wr, md⟩ 7 = some [.v (.int .i64 0), .v (.int .i64 0), .v (.bool false), .v (.int .u8 0)] := by kernel_rfl
theorem t7_some : (Tryd.prog.underlying 7).isSome = true := by kernel_rfl
theorem t7_flds : Cfg.flds ⟨Tryd.prog, own, verT, wr, md⟩ 7 = some [(0, 1), (1, 1), (2, 1), (3, 1)] := by kernel_rfl
theorem t7_f0 : Cfg.foff ⟨Tryd.prog, own, verT, wr, md⟩ 7 0 = some (0, 2) := by kernel_rfl
theorem t7_f1 : Cfg.foff ⟨Tryd.prog, own, verT, wr, md⟩ 7 1 = some (1, 3) := by kernel_rfl
theorem t7_f2 : Cfg.foff ⟨Tryd.prog, own, verT, wr, md⟩ 7 2 = some (2, 4) := by kernel_rfl
theorem t7_f3 : Cfg.foff ⟨Tryd.prog, own, verT, wr, md⟩ 7 3 = some (3, 6) := by kernel_rfl
theorem t8_csz : Cfg.csz ⟨Tryd.prog, own, verT, wr, md⟩ 8 = some 4 := by kernel_rfl
theorem t8_bts : Cfg.bts ⟨Tryd.prog, own, verT, wr, md⟩ 8 = some 24 := by kernel_rfl
theorem t8_ag : Cfg.isAg ⟨Tryd.prog, own, verT, wr, md⟩ 8 = some true := by kernel_rfl
theorem t8_str : Cfg.isStr ⟨Tryd.prog, own, verT, wr, md⟩ 8 = false := by kernel_rfl
theorem t8_elem : Cfg.elemT ⟨Tryd.prog, own, verT, wr, md⟩ 8 = none := by kernel_rfl
theorem t8_zok : Cfg.zerOK ⟨Tryd.prog, own, verT, wr, md⟩ 8 = true := by kernel_rfl
theorem t8_zer : Cfg.zer ⟨Tryd.prog, own, verT, wr, md⟩ 8 = some [.v (.int .i64 0), .v (.int .i64 0), .v (.bool false), .v (.int .u8 0)] := by kernel_rfl
theorem t8_some : (Tryd.prog.underlying 8).isSome = true := by kernel_rfl
theorem t8_flds : Cfg.flds ⟨Tryd.prog, own, verT, wr, md⟩ 8 = some [(0, 1), (1, 1), (2, 1), (3, 1)] := by kernel_rfl
theorem t8_f0 : Cfg.foff ⟨Tryd.prog, own, verT, wr, md⟩ 8 0 = some (0, 2) := by kernel_rfl
theorem t8_f1 : Cfg.foff ⟨Tryd.prog, own, verT, wr, md⟩ 8 1 = some (1, 3) := by kernel_rfl
theorem t8_f2 : Cfg.foff ⟨Tryd.prog, own, verT, wr, md⟩ 8 2 = some (2, 4) := by kernel_rfl
theorem t8_f3 : Cfg.foff ⟨Tryd.prog, own, verT, wr, md⟩ 8 3 = some (3, 6) := by kernel_rfl
theorem t9_csz : Cfg.csz ⟨Tryd.prog, own, verT, wr, md⟩ 9 = some 1 := by kernel_rfl
theorem t9_bts : Cfg.bts ⟨Tryd.prog, own, verT, wr, md⟩ 9 = some 16 := by kernel_rfl
theorem t9_ag : Cfg.isAg ⟨Tryd.prog, own, verT, wr, md⟩ 9 = some false := by kernel_rfl
theorem t9_str : Cfg.isStr ⟨Tryd.prog, own, verT, wr, md⟩ 9 = true := by kernel_rfl
theorem t9_elem : Cfg.elemT ⟨Tryd.prog, own, verT, wr, md⟩ 9 = none := by kernel_rfl
theorem t9_zok : Cfg.zerOK ⟨Tryd.prog, own, verT, wr, md⟩ 9 = true := by kernel_rfl
theorem t9_zer : Cfg.zer ⟨Tryd.prog, own, verT, wr, md⟩ 9 = some [.v (.string ByteArray.empty)] := by kernel_rfl
theorem t9_some : (Tryd.prog.underlying 9).isSome = true := by kernel_rfl
theorem t10_csz : Cfg.csz ⟨Tryd.prog, own, verT, wr, md⟩ 10 = some 1 := by kernel_rfl
theorem t10_bts : Cfg.bts ⟨Tryd.prog, own, verT, wr, md⟩ 10 = some 16 := by kernel_rfl
theorem t10_ag : Cfg.isAg ⟨Tryd.prog, own, verT, wr, md⟩ 10 = some false := by kernel_rfl
theorem t10_str : Cfg.isStr ⟨Tryd.prog, own, verT, wr, md⟩ 10 = true := by kernel_rfl
theorem t10_elem : Cfg.elemT ⟨Tryd.prog, own, verT, wr, md⟩ 10 = none := by kernel_rfl
theorem t10_zok : Cfg.zerOK ⟨Tryd.prog, own, verT, wr, md⟩ 10 = true := by kernel_rfl
theorem t10_zer : Cfg.zer ⟨Tryd.prog, own, verT, wr, md⟩ 10 = some [.v (.string ByteArray.empty)] := by kernel_rfl
theorem t10_some : (Tryd.prog.underlying 10).isSome = true := by kernel_rfl
theorem t11_csz : Cfg.csz ⟨Tryd.prog, own, verT, wr, md⟩ 11 = some 1 := by kernel_rfl
theorem t11_bts : Cfg.bts ⟨Tryd.prog, own, verT, wr, md⟩ 11 = some 16 := by kernel_rfl
theorem t11_ag : Cfg.isAg ⟨Tryd.prog, own, verT, wr, md⟩ 11 = some false := by kernel_rfl
theorem t11_str : Cfg.isStr ⟨Tryd.prog, own, verT, wr, md⟩ 11 = true := by kernel_rfl
theorem t11_elem : Cfg.elemT ⟨Tryd.prog, own, verT, wr, md⟩ 11 = none := by kernel_rfl
theorem t11_zok : Cfg.zerOK ⟨Tryd.prog, own, verT, wr, md⟩ 11 = true := by kernel_rfl
theorem t11_zer : Cfg.zer ⟨Tryd.prog, own, verT, wr, md⟩ 11 = some [.v (.string ByteArray.empty)] := by kernel_rfl
theorem t11_some : (Tryd.prog.underlying 11).isSome = true := by kernel_rfl
theorem t12_csz : Cfg.csz ⟨Tryd.prog, own, verT, wr, md⟩ 12 = some 1 := by kernel_rfl
theorem t12_bts : Cfg.bts ⟨Tryd.prog, own, verT, wr, md⟩ 12 = some 8 := by kernel_rfl
theorem t12_ag : Cfg.isAg ⟨Tryd.prog, own, verT, wr, md⟩ 12 = some false := by kernel_rfl
theorem t12_str : Cfg.isStr ⟨Tryd.prog, own, verT, wr, md⟩ 12 = false := by kernel_rfl
theorem t12_int : Cfg.intK ⟨Tryd.prog, own, verT, wr, md⟩ 12 = some .u64 := by kernel_rfl
theorem t12_elem : Cfg.elemT ⟨Tryd.prog, own, verT, wr, md⟩ 12 = none := by kernel_rfl
theorem t12_zok : Cfg.zerOK ⟨Tryd.prog, own, verT, wr, md⟩ 12 = true := by kernel_rfl
theorem t12_zer : Cfg.zer ⟨Tryd.prog, own, verT, wr, md⟩ 12 = some [.v (.int .u64 0)] := by kernel_rfl
theorem t12_some : (Tryd.prog.underlying 12).isSome = true := by kernel_rfl
theorem t13_csz : Cfg.csz ⟨Tryd.prog, own, verT, wr, md⟩ 13 = some 2 := by kernel_rfl
theorem t13_bts : Cfg.bts ⟨Tryd.prog, own, verT, wr, md⟩ 13 = some 24 := by kernel_rfl
theorem t13_ag : Cfg.isAg ⟨Tryd.prog, own, verT, wr, md⟩ 13 = some true := by kernel_rfl
theorem t13_str : Cfg.isStr ⟨Tryd.prog, own, verT, wr, md⟩ 13 = false := by kernel_rfl
theorem t13_elem : Cfg.elemT ⟨Tryd.prog, own, verT, wr, md⟩ 13 = none := by kernel_rfl
theorem t13_zok : Cfg.zerOK ⟨Tryd.prog, own, verT, wr, md⟩ 13 = true := by kernel_rfl
theorem t13_zer : Cfg.zer ⟨Tryd.prog, own, verT, wr, md⟩ 13 = some [.v (.string ByteArray.empty), .v (.int .u64 0)] := by kernel_rfl
theorem t13_some : (Tryd.prog.underlying 13).isSome = true := by kernel_rfl
theorem t13_flds : Cfg.flds ⟨Tryd.prog, own, verT, wr, md⟩ 13 = some [(0, 1), (1, 1)] := by kernel_rfl
theorem t13_f0 : Cfg.foff ⟨Tryd.prog, own, verT, wr, md⟩ 13 0 = some (0, 9) := by kernel_rfl
theorem t13_f1 : Cfg.foff ⟨Tryd.prog, own, verT, wr, md⟩ 13 1 = some (1, 12) := by kernel_rfl
theorem t14_csz : Cfg.csz ⟨Tryd.prog, own, verT, wr, md⟩ 14 = some 2 := by kernel_rfl
theorem t14_bts : Cfg.bts ⟨Tryd.prog, own, verT, wr, md⟩ 14 = some 24 := by kernel_rfl
theorem t14_ag : Cfg.isAg ⟨Tryd.prog, own, verT, wr, md⟩ 14 = some true := by kernel_rfl
theorem t14_str : Cfg.isStr ⟨Tryd.prog, own, verT, wr, md⟩ 14 = false := by kernel_rfl
theorem t14_elem : Cfg.elemT ⟨Tryd.prog, own, verT, wr, md⟩ 14 = none := by kernel_rfl
theorem t14_zok : Cfg.zerOK ⟨Tryd.prog, own, verT, wr, md⟩ 14 = true := by kernel_rfl
theorem t14_zer : Cfg.zer ⟨Tryd.prog, own, verT, wr, md⟩ 14 = some [.v (.string ByteArray.empty), .v (.int .u64 0)] := by kernel_rfl
theorem t14_some : (Tryd.prog.underlying 14).isSome = true := by kernel_rfl
theorem t14_flds : Cfg.flds ⟨Tryd.prog, own, verT, wr, md⟩ 14 = some [(0, 1), (1, 1)] := by kernel_rfl
theorem t14_f0 : Cfg.foff ⟨Tryd.prog, own, verT, wr, md⟩ 14 0 = some (0, 9) := by kernel_rfl
theorem t14_f1 : Cfg.foff ⟨Tryd.prog, own, verT, wr, md⟩ 14 1 = some (1, 12) := by kernel_rfl
theorem t21_csz : Cfg.csz ⟨Tryd.prog, own, verT, wr, md⟩ 21 = some 1 := by kernel_rfl
theorem t21_bts : Cfg.bts ⟨Tryd.prog, own, verT, wr, md⟩ 21 = some 4 := by kernel_rfl
theorem t21_ag : Cfg.isAg ⟨Tryd.prog, own, verT, wr, md⟩ 21 = some false := by kernel_rfl
theorem t21_str : Cfg.isStr ⟨Tryd.prog, own, verT, wr, md⟩ 21 = false := by kernel_rfl
theorem t21_int : Cfg.intK ⟨Tryd.prog, own, verT, wr, md⟩ 21 = some .i32 := by kernel_rfl
theorem t21_elem : Cfg.elemT ⟨Tryd.prog, own, verT, wr, md⟩ 21 = none := by kernel_rfl
theorem t21_zok : Cfg.zerOK ⟨Tryd.prog, own, verT, wr, md⟩ 21 = true := by kernel_rfl
theorem t21_zer : Cfg.zer ⟨Tryd.prog, own, verT, wr, md⟩ 21 = some [.v (.int .i32 0)] := by kernel_rfl
theorem t21_some : (Tryd.prog.underlying 21).isSome = true := by kernel_rfl
theorem t22_csz : Cfg.csz ⟨Tryd.prog, own, verT, wr, md⟩ 22 = some 3 := by kernel_rfl
theorem t22_bts : Cfg.bts ⟨Tryd.prog, own, verT, wr, md⟩ 22 = some 24 := by kernel_rfl
theorem t22_ag : Cfg.isAg ⟨Tryd.prog, own, verT, wr, md⟩ 22 = some true := by kernel_rfl
theorem t22_str : Cfg.isStr ⟨Tryd.prog, own, verT, wr, md⟩ 22 = false := by kernel_rfl
theorem t22_elem : Cfg.elemT ⟨Tryd.prog, own, verT, wr, md⟩ 22 = none := by kernel_rfl
theorem t22_zok : Cfg.zerOK ⟨Tryd.prog, own, verT, wr, md⟩ 22 = true := by kernel_rfl
theorem t22_zer : Cfg.zer ⟨Tryd.prog, own, verT, wr, md⟩ 22 = some [.v (.int .i64 0), .v (.int .i64 0), .v (.int .i64 0)] := by kernel_rfl
theorem t22_some : (Tryd.prog.underlying 22).isSome = true := by kernel_rfl
theorem t22_flds : Cfg.flds ⟨Tryd.prog, own, verT, wr, md⟩ 22 = some [(0, 1), (1, 1), (2, 1)] := by kernel_rfl
theorem t22_f0 : Cfg.foff ⟨Tryd.prog, own, verT, wr, md⟩ 22 0 = some (0, 2) := by kernel_rfl
theorem t22_f1 : Cfg.foff ⟨Tryd.prog, own, verT, wr, md⟩ 22 1 = some (1, 2) := by kernel_rfl
theorem t22_f2 : Cfg.foff ⟨Tryd.prog, own, verT, wr, md⟩ 22 2 = some (2, 2) := by kernel_rfl
theorem t23_csz : Cfg.csz ⟨Tryd.prog, own, verT, wr, md⟩ 23 = some 3 := by kernel_rfl
theorem t23_bts : Cfg.bts ⟨Tryd.prog, own, verT, wr, md⟩ 23 = some 24 := by kernel_rfl
theorem t23_ag : Cfg.isAg ⟨Tryd.prog, own, verT, wr, md⟩ 23 = some true := by kernel_rfl
theorem t23_str : Cfg.isStr ⟨Tryd.prog, own, verT, wr, md⟩ 23 = false := by kernel_rfl
theorem t23_elem : Cfg.elemT ⟨Tryd.prog, own, verT, wr, md⟩ 23 = none := by kernel_rfl
theorem t23_zok : Cfg.zerOK ⟨Tryd.prog, own, verT, wr, md⟩ 23 = true := by kernel_rfl
theorem t23_zer : Cfg.zer ⟨Tryd.prog, own, verT, wr, md⟩ 23 = some [.v (.int .i64 0), .v (.int .i64 0), .v (.int .i64 0)] := by kernel_rfl
theorem t23_some : (Tryd.prog.underlying 23).isSome = true := by kernel_rfl
theorem t23_flds : Cfg.flds ⟨Tryd.prog, own, verT, wr, md⟩ 23 = some [(0, 1), (1, 1), (2, 1)] := by kernel_rfl
theorem t23_f0 : Cfg.foff ⟨Tryd.prog, own, verT, wr, md⟩ 23 0 = some (0, 2) := by kernel_rfl
theorem t23_f1 : Cfg.foff ⟨Tryd.prog, own, verT, wr, md⟩ 23 1 = some (1, 2) := by kernel_rfl
theorem t23_f2 : Cfg.foff ⟨Tryd.prog, own, verT, wr, md⟩ 23 2 = some (2, 2) := by kernel_rfl
theorem t25_csz : Cfg.csz ⟨Tryd.prog, own, verT, wr, md⟩ 25 = some 3 := by kernel_rfl
theorem t25_bts : Cfg.bts ⟨Tryd.prog, own, verT, wr, md⟩ 25 = some 24 := by kernel_rfl
theorem t25_ag : Cfg.isAg ⟨Tryd.prog, own, verT, wr, md⟩ 25 = some true := by kernel_rfl
theorem t25_str : Cfg.isStr ⟨Tryd.prog, own, verT, wr, md⟩ 25 = false := by kernel_rfl
theorem t25_elem : Cfg.elemT ⟨Tryd.prog, own, verT, wr, md⟩ 25 = none := by kernel_rfl
theorem t25_zok : Cfg.zerOK ⟨Tryd.prog, own, verT, wr, md⟩ 25 = true := by kernel_rfl
theorem t25_zer : Cfg.zer ⟨Tryd.prog, own, verT, wr, md⟩ 25 = some [.v (.int .i64 0), .v (.int .i64 0), .v (.int .i64 0)] := by kernel_rfl
theorem t25_some : (Tryd.prog.underlying 25).isSome = true := by kernel_rfl
theorem t25_flds : Cfg.flds ⟨Tryd.prog, own, verT, wr, md⟩ 25 = some [(0, 1), (1, 1), (2, 1)] := by kernel_rfl
theorem t25_f0 : Cfg.foff ⟨Tryd.prog, own, verT, wr, md⟩ 25 0 = some (0, 2) := by kernel_rfl
theorem t25_f1 : Cfg.foff ⟨Tryd.prog, own, verT, wr, md⟩ 25 1 = some (1, 2) := by kernel_rfl
theorem t25_f2 : Cfg.foff ⟨Tryd.prog, own, verT, wr, md⟩ 25 2 = some (2, 2) := by kernel_rfl
theorem t28_csz : Cfg.csz ⟨Tryd.prog, own, verT, wr, md⟩ 28 = some 4 := by kernel_rfl
theorem t28_bts : Cfg.bts ⟨Tryd.prog, own, verT, wr, md⟩ 28 = some 32 := by kernel_rfl
theorem t28_ag : Cfg.isAg ⟨Tryd.prog, own, verT, wr, md⟩ 28 = some true := by kernel_rfl
theorem t28_str : Cfg.isStr ⟨Tryd.prog, own, verT, wr, md⟩ 28 = false := by kernel_rfl
theorem t28_elem : Cfg.elemT ⟨Tryd.prog, own, verT, wr, md⟩ 28 = none := by kernel_rfl
theorem t28_zok : Cfg.zerOK ⟨Tryd.prog, own, verT, wr, md⟩ 28 = true := by kernel_rfl
theorem t28_zer : Cfg.zer ⟨Tryd.prog, own, verT, wr, md⟩ 28 = some [.v (.int .i64 0), .v (.int .i64 0), .v (.int .i64 0), .v (.int .i64 0)] := by kernel_rfl
theorem t28_some : (Tryd.prog.underlying 28).isSome = true := by kernel_rfl
theorem t28_flds : Cfg.flds ⟨Tryd.prog, own, verT, wr, md⟩ 28 = some [(0, 1), (1, 3)] := by kernel_rfl
theorem t28_f0 : Cfg.foff ⟨Tryd.prog, own, verT, wr, md⟩ 28 0 = some (0, 2) := by kernel_rfl
theorem t28_f1 : Cfg.foff ⟨Tryd.prog, own, verT, wr, md⟩ 28 1 = some (1, 25) := by kernel_rfl
theorem t29_csz : Cfg.csz ⟨Tryd.prog, own, verT, wr, md⟩ 29 = some 4 := by kernel_rfl
theorem t29_bts : Cfg.bts ⟨Tryd.prog, own, verT, wr, md⟩ 29 = some 32 := by kernel_rfl
theorem t29_ag : Cfg.isAg ⟨Tryd.prog, own, verT, wr, md⟩ 29 = some true := by kernel_rfl
theorem t29_str : Cfg.isStr ⟨Tryd.prog, own, verT, wr, md⟩ 29 = false := by kernel_rfl
theorem t29_elem : Cfg.elemT ⟨Tryd.prog, own, verT, wr, md⟩ 29 = none := by kernel_rfl
theorem t29_zok : Cfg.zerOK ⟨Tryd.prog, own, verT, wr, md⟩ 29 = true := by kernel_rfl
theorem t29_zer : Cfg.zer ⟨Tryd.prog, own, verT, wr, md⟩ 29 = some [.v (.int .i64 0), .v (.int .i64 0), .v (.int .i64 0), .v (.int .i64 0)] := by kernel_rfl
theorem t29_some : (Tryd.prog.underlying 29).isSome = true := by kernel_rfl
theorem t29_flds : Cfg.flds ⟨Tryd.prog, own, verT, wr, md⟩ 29 = some [(0, 1), (1, 3)] := by kernel_rfl
theorem t29_f0 : Cfg.foff ⟨Tryd.prog, own, verT, wr, md⟩ 29 0 = some (0, 2) := by kernel_rfl
theorem t29_f1 : Cfg.foff ⟨Tryd.prog, own, verT, wr, md⟩ 29 1 = some (1, 25) := by kernel_rfl
theorem t33_csz : Cfg.csz ⟨Tryd.prog, own, verT, wr, md⟩ 33 = some 7 := by kernel_rfl
theorem t33_bts : Cfg.bts ⟨Tryd.prog, own, verT, wr, md⟩ 33 = some 64 := by kernel_rfl
theorem t33_ag : Cfg.isAg ⟨Tryd.prog, own, verT, wr, md⟩ 33 = some true := by kernel_rfl
theorem t33_str : Cfg.isStr ⟨Tryd.prog, own, verT, wr, md⟩ 33 = false := by kernel_rfl
theorem t33_elem : Cfg.elemT ⟨Tryd.prog, own, verT, wr, md⟩ 33 = none := by kernel_rfl
theorem t33_zok : Cfg.zerOK ⟨Tryd.prog, own, verT, wr, md⟩ 33 = true := by kernel_rfl
theorem t33_zer : Cfg.zer ⟨Tryd.prog, own, verT, wr, md⟩ 33 = some [.v (.string ByteArray.empty), .v (.int .i64 0), .v (.int .i64 0), .v (.int .i64 0), .v (.int .i64 0), .v (.int .i64 0), .v (.int .i64 0)] := by kernel_rfl
theorem t33_some : (Tryd.prog.underlying 33).isSome = true := by kernel_rfl
theorem t33_flds : Cfg.flds ⟨Tryd.prog, own, verT, wr, md⟩ 33 = some [(0, 1), (1, 3), (4, 3)] := by kernel_rfl
theorem t33_f0 : Cfg.foff ⟨Tryd.prog, own, verT, wr, md⟩ 33 0 = some (0, 9) := by kernel_rfl
theorem t33_f1 : Cfg.foff ⟨Tryd.prog, own, verT, wr, md⟩ 33 1 = some (1, 23) := by kernel_rfl
theorem t33_f2 : Cfg.foff ⟨Tryd.prog, own, verT, wr, md⟩ 33 2 = some (4, 23) := by kernel_rfl
theorem t34_csz : Cfg.csz ⟨Tryd.prog, own, verT, wr, md⟩ 34 = some 7 := by kernel_rfl
theorem t34_bts : Cfg.bts ⟨Tryd.prog, own, verT, wr, md⟩ 34 = some 64 := by kernel_rfl
theorem t34_ag : Cfg.isAg ⟨Tryd.prog, own, verT, wr, md⟩ 34 = some true := by kernel_rfl
theorem t34_str : Cfg.isStr ⟨Tryd.prog, own, verT, wr, md⟩ 34 = false := by kernel_rfl
theorem t34_elem : Cfg.elemT ⟨Tryd.prog, own, verT, wr, md⟩ 34 = none := by kernel_rfl
theorem t34_zok : Cfg.zerOK ⟨Tryd.prog, own, verT, wr, md⟩ 34 = true := by kernel_rfl
theorem t34_zer : Cfg.zer ⟨Tryd.prog, own, verT, wr, md⟩ 34 = some [.v (.string ByteArray.empty), .v (.int .i64 0), .v (.int .i64 0), .v (.int .i64 0), .v (.int .i64 0), .v (.int .i64 0), .v (.int .i64 0)] := by kernel_rfl
theorem t34_some : (Tryd.prog.underlying 34).isSome = true := by kernel_rfl
theorem t34_flds : Cfg.flds ⟨Tryd.prog, own, verT, wr, md⟩ 34 = some [(0, 1), (1, 3), (4, 3)] := by kernel_rfl
theorem t34_f0 : Cfg.foff ⟨Tryd.prog, own, verT, wr, md⟩ 34 0 = some (0, 9) := by kernel_rfl
theorem t34_f1 : Cfg.foff ⟨Tryd.prog, own, verT, wr, md⟩ 34 1 = some (1, 23) := by kernel_rfl
theorem t34_f2 : Cfg.foff ⟨Tryd.prog, own, verT, wr, md⟩ 34 2 = some (4, 23) := by kernel_rfl
theorem t37_csz : Cfg.csz ⟨Tryd.prog, own, verT, wr, md⟩ 37 = some 7 := by kernel_rfl
theorem t37_bts : Cfg.bts ⟨Tryd.prog, own, verT, wr, md⟩ 37 = some 64 := by kernel_rfl
theorem t37_ag : Cfg.isAg ⟨Tryd.prog, own, verT, wr, md⟩ 37 = some true := by kernel_rfl
theorem t37_str : Cfg.isStr ⟨Tryd.prog, own, verT, wr, md⟩ 37 = false := by kernel_rfl
theorem t37_elem : Cfg.elemT ⟨Tryd.prog, own, verT, wr, md⟩ 37 = none := by kernel_rfl
theorem t37_zok : Cfg.zerOK ⟨Tryd.prog, own, verT, wr, md⟩ 37 = true := by kernel_rfl
theorem t37_zer : Cfg.zer ⟨Tryd.prog, own, verT, wr, md⟩ 37 = some [.v (.string ByteArray.empty), .v (.int .i64 0), .v (.int .i64 0), .v (.int .i64 0), .v (.int .i64 0), .v (.int .i64 0), .v (.int .i64 0)] := by kernel_rfl
theorem t37_some : (Tryd.prog.underlying 37).isSome = true := by kernel_rfl
theorem t37_flds : Cfg.flds ⟨Tryd.prog, own, verT, wr, md⟩ 37 = some [(0, 1), (1, 3), (4, 3)] := by kernel_rfl
theorem t37_f0 : Cfg.foff ⟨Tryd.prog, own, verT, wr, md⟩ 37 0 = some (0, 9) := by kernel_rfl
theorem t37_f1 : Cfg.foff ⟨Tryd.prog, own, verT, wr, md⟩ 37 1 = some (1, 25) := by kernel_rfl
theorem t37_f2 : Cfg.foff ⟨Tryd.prog, own, verT, wr, md⟩ 37 2 = some (4, 25) := by kernel_rfl
theorem t38_csz : Cfg.csz ⟨Tryd.prog, own, verT, wr, md⟩ 38 = some 7 := by kernel_rfl
theorem t38_bts : Cfg.bts ⟨Tryd.prog, own, verT, wr, md⟩ 38 = some 64 := by kernel_rfl
theorem t38_ag : Cfg.isAg ⟨Tryd.prog, own, verT, wr, md⟩ 38 = some true := by kernel_rfl
theorem t38_str : Cfg.isStr ⟨Tryd.prog, own, verT, wr, md⟩ 38 = false := by kernel_rfl
theorem t38_elem : Cfg.elemT ⟨Tryd.prog, own, verT, wr, md⟩ 38 = none := by kernel_rfl
theorem t38_zok : Cfg.zerOK ⟨Tryd.prog, own, verT, wr, md⟩ 38 = true := by kernel_rfl
theorem t38_zer : Cfg.zer ⟨Tryd.prog, own, verT, wr, md⟩ 38 = some [.v (.string ByteArray.empty), .v (.int .i64 0), .v (.int .i64 0), .v (.int .i64 0), .v (.int .i64 0), .v (.int .i64 0), .v (.int .i64 0)] := by kernel_rfl
theorem t38_some : (Tryd.prog.underlying 38).isSome = true := by kernel_rfl
theorem t38_flds : Cfg.flds ⟨Tryd.prog, own, verT, wr, md⟩ 38 = some [(0, 1), (1, 3), (4, 3)] := by kernel_rfl
theorem t38_f0 : Cfg.foff ⟨Tryd.prog, own, verT, wr, md⟩ 38 0 = some (0, 9) := by kernel_rfl
theorem t38_f1 : Cfg.foff ⟨Tryd.prog, own, verT, wr, md⟩ 38 1 = some (1, 25) := by kernel_rfl
theorem t38_f2 : Cfg.foff ⟨Tryd.prog, own, verT, wr, md⟩ 38 2 = some (4, 25) := by kernel_rfl
theorem t41_csz : Cfg.csz ⟨Tryd.prog, own, verT, wr, md⟩ 41 = some 1 := by kernel_rfl
theorem t41_bts : Cfg.bts ⟨Tryd.prog, own, verT, wr, md⟩ 41 = some 24 := by kernel_rfl
theorem t41_ag : Cfg.isAg ⟨Tryd.prog, own, verT, wr, md⟩ 41 = some false := by kernel_rfl
theorem t41_str : Cfg.isStr ⟨Tryd.prog, own, verT, wr, md⟩ 41 = false := by kernel_rfl
theorem t41_elem : Cfg.elemT ⟨Tryd.prog, own, verT, wr, md⟩ 41 = some 5 := by kernel_rfl
theorem t41_zok : Cfg.zerOK ⟨Tryd.prog, own, verT, wr, md⟩ 41 = true := by kernel_rfl
theorem t41_zer : Cfg.zer ⟨Tryd.prog, own, verT, wr, md⟩ 41 = some [.nil] := by kernel_rfl
theorem t41_some : (Tryd.prog.underlying 41).isSome = true := by kernel_rfl
theorem t47_csz : Cfg.csz ⟨Tryd.prog, own, verT, wr, md⟩ 47 = some 8 := by kernel_rfl
theorem t47_bts : Cfg.bts ⟨Tryd.prog, own, verT, wr, md⟩ 47 = some 72 := by kernel_rfl
theorem t47_ag : Cfg.isAg ⟨Tryd.prog, own, verT, wr, md⟩ 47 = some true := by kernel_rfl
theorem t47_str : Cfg.isStr ⟨Tryd.prog, own, verT, wr, md⟩ 47 = false := by kernel_rfl
theorem t47_elem : Cfg.elemT ⟨Tryd.prog, own, verT, wr, md⟩ 47 = none := by kernel_rfl
theorem t47_zok : Cfg.zerOK ⟨Tryd.prog, own, verT, wr, md⟩ 47 = true := by kernel_rfl
theorem t47_zer : Cfg.zer ⟨Tryd.prog, own, verT, wr, md⟩ 47 = some [.v (.int .i64 0), .v (.string ByteArray.empty), .v (.int .i64 0), .v (.int .i64 0), .v (.int .i64 0), .v (.int .i64 0), .v (.int .i64 0), .v (.int .i64 0)] := by kernel_rfl
theorem t47_some : (Tryd.prog.underlying 47).isSome = true := by kernel_rfl
theorem t47_flds : Cfg.flds ⟨Tryd.prog, own, verT, wr, md⟩ 47 = some [(0, 1), (1, 7)] := by kernel_rfl
theorem t47_f0 : Cfg.foff ⟨Tryd.prog, own, verT, wr, md⟩ 47 0 = some (0, 2) := by kernel_rfl
theorem t47_f1 : Cfg.foff ⟨Tryd.prog, own, verT, wr, md⟩ 47 1 = some (1, 38) := by kernel_rfl
theorem t48_csz : Cfg.csz ⟨Tryd.prog, own, verT, wr, md⟩ 48 = some 8 := by kernel_rfl
theorem t48_bts : Cfg.bts ⟨Tryd.prog, own, verT, wr, md⟩ 48 = some 72 := by kernel_rfl
theorem t48_ag : Cfg.isAg ⟨Tryd.prog, own, verT, wr, md⟩ 48 = some true := by kernel_rfl
theorem t48_str : Cfg.isStr ⟨Tryd.prog, own, verT, wr, md⟩ 48 = false := by kernel_rfl
theorem t48_elem : Cfg.elemT ⟨Tryd.prog, own, verT, wr, md⟩ 48 = none := by kernel_rfl
theorem t48_zok : Cfg.zerOK ⟨Tryd.prog, own, verT, wr, md⟩ 48 = true := by kernel_rfl
theorem t48_zer : Cfg.zer ⟨Tryd.prog, own, verT, wr, md⟩ 48 = some [.v (.int .i64 0), .v (.string ByteArray.empty), .v (.int .i64 0), .v (.int .i64 0), .v (.int .i64 0), .v (.int .i64 0), .v (.int .i64 0), .v (.int .i64 0)] := by kernel_rfl
theorem t48_some : (Tryd.prog.underlying 48).isSome = true := by kernel_rfl
theorem t48_flds : Cfg.flds ⟨Tryd.prog, own, verT, wr, md⟩ 48 = some [(0, 1), (1, 7)] := by kernel_rfl
theorem t48_f0 : Cfg.foff ⟨Tryd.prog, own, verT, wr, md⟩ 48 0 = some (0, 2) := by kernel_rfl
theorem t48_f1 : Cfg.foff ⟨Tryd.prog, own, verT, wr, md⟩ 48 1 = some (1, 38) := by kernel_rfl
theorem t57_csz : Cfg.csz ⟨Tryd.prog, own, verT, wr, md⟩ 57 = some 1 := by kernel_rfl
theorem t57_bts : Cfg.bts ⟨Tryd.prog, own, verT, wr, md⟩ 57 = some 24 := by kernel_rfl
theorem t57_ag : Cfg.isAg ⟨Tryd.prog, own, verT, wr, md⟩ 57 = some false := by kernel_rfl
theorem t57_str : Cfg.isStr ⟨Tryd.prog, own, verT, wr, md⟩ 57 = false := by kernel_rfl
theorem t57_elem : Cfg.elemT ⟨Tryd.prog, own, verT, wr, md⟩ 57 = some 100 := by kernel_rfl
theorem t57_zok : Cfg.zerOK ⟨Tryd.prog, own, verT, wr, md⟩ 57 = true := by kernel_rfl
theorem t57_zer : Cfg.zer ⟨Tryd.prog, own, verT, wr, md⟩ 57 = some [.nil] := by kernel_rfl
theorem t57_some : (Tryd.prog.underlying 57).isSome = true := by kernel_rfl
theorem t58_csz : Cfg.csz ⟨Tryd.prog, own, verT, wr, md⟩ 58 = some 1 := by kernel_rfl
theorem t58_bts : Cfg.bts ⟨Tryd.prog, own, verT, wr, md⟩ 58 = some 24 := by kernel_rfl
theorem t58_ag : Cfg.isAg ⟨Tryd.prog, own, verT, wr, md⟩ 58 = some false := by kernel_rfl
theorem t58_str : Cfg.isStr ⟨Tryd.prog, own, verT, wr, md⟩ 58 = false := by kernel_rfl
theorem t58_elem : Cfg.elemT ⟨Tryd.prog, own, verT, wr, md⟩ 58 = some 2 := by kernel_rfl
theorem t58_zok : Cfg.zerOK ⟨Tryd.prog, own, verT, wr, md⟩ 58 = true := by kernel_rfl
theorem t58_zer : Cfg.zer ⟨Tryd.prog, own, verT, wr, md⟩ 58 = some [.nil] := by kernel_rfl
theorem t58_some : (Tryd.prog.underlying 58).isSome = true := by kernel_rfl
theorem t61_csz : Cfg.csz ⟨Tryd.prog, own, verT, wr, md⟩ 61 = some 1 := by kernel_rfl
theorem t61_bts : Cfg.bts ⟨Tryd.prog, own, verT, wr, md⟩ 61 = some 24 := by kernel_rfl
theorem t61_ag : Cfg.isAg ⟨Tryd.prog, own, verT, wr, md⟩ 61 = some false := by kernel_rfl
theorem t61_str : Cfg.isStr ⟨Tryd.prog, own, verT, wr, md⟩ 61 = false := by kernel_rfl
theorem t61_elem : Cfg.elemT ⟨Tryd.prog, own, verT, wr, md⟩ 61 = some 104 := by kernel_rfl
theorem t61_zok : Cfg.zerOK ⟨Tryd.prog, own, verT, wr, md⟩ 61 = true := by kernel_rfl
theorem t61_zer : Cfg.zer ⟨Tryd.prog, own, verT, wr, md⟩ 61 = some [.nil] := by kernel_rfl
theorem t61_some : (Tryd.prog.underlying 61).isSome = true := by kernel_rfl
theorem t71_csz : Cfg.csz ⟨Tryd.prog, own, verT, wr, md⟩ 71 = some 1 := by kernel_rfl
theorem t71_bts : Cfg.bts ⟨Tryd.prog, own, verT, wr, md⟩ 71 = some 24 := by kernel_rfl
theorem t71_ag : Cfg.isAg ⟨Tryd.prog, own, verT, wr, md⟩ 71 = some false := by kernel_rfl
theorem t71_str : Cfg.isStr ⟨Tryd.prog, own, verT, wr, md⟩ 71 = false := by kernel_rfl
theorem t71_elem : Cfg.elemT ⟨Tryd.prog, own, verT, wr, md⟩ 71 = some 9 := by kernel_rfl
theorem t71_zok : Cfg.zerOK ⟨Tryd.prog, own, verT, wr, md⟩ 71 = true := by kernel_rfl
theorem t71_zer : Cfg.zer ⟨Tryd.prog, own, verT, wr, md⟩ 71 = some [.nil] := by kernel_rfl
theorem t71_some : (Tryd.prog.underlying 71).isSome = true := by kernel_rfl
theorem t76_csz : Cfg.csz ⟨Tryd.prog, own, verT, wr, md⟩ 76 = some 3 := by kernel_rfl
theorem t76_bts : Cfg.bts ⟨Tryd.prog, own, verT, wr, md⟩ 76 = some 24 := by kernel_rfl
theorem t76_ag : Cfg.isAg ⟨Tryd.prog, own, verT, wr, md⟩ 76 = some true := by kernel_rfl
theorem t76_str : Cfg.isStr ⟨Tryd.prog, own, verT, wr, md⟩ 76 = false := by kernel_rfl
theorem t76_elem : Cfg.elemT ⟨Tryd.prog, own, verT, wr, md⟩ 76 = none := by kernel_rfl
theorem t76_zok : Cfg.zerOK ⟨Tryd.prog, own, verT, wr, md⟩ 76 = true := by kernel_rfl
theorem t76_zer : Cfg.zer ⟨Tryd.prog, own, verT, wr, md⟩ 76 = some [.v (.int .i64 0), .v (.int .i64 0), .v (.int .i64 0)] := by kernel_rfl
theorem t76_some : (Tryd.prog.underlying 76).isSome = true := by kernel_rfl
theorem t76_flds : Cfg.flds ⟨Tryd.prog, own, verT, wr, md⟩ 76 = some [] := by kernel_rfl
theorem t76_arr : Cfg.arrT ⟨Tryd.prog, own, verT, wr, md⟩ 76 = some (3, 2) := by kernel_rfl
theorem t94_csz : Cfg.csz ⟨Tryd.prog, own, verT, wr, md⟩ 94 = some 1 := by kernel_rfl
theorem t94_bts : Cfg.bts ⟨Tryd.prog, own, verT, wr, md⟩ 94 = some 24 := by kernel_rfl
theorem t94_ag : Cfg.isAg ⟨Tryd.prog, own, verT, wr, md⟩ 94 = some false := by kernel_rfl
theorem t94_str : Cfg.isStr ⟨Tryd.prog, own, verT, wr, md⟩ 94 = false := by kernel_rfl
theorem t94_elem : Cfg.elemT ⟨Tryd.prog, own, verT, wr, md⟩ 94 = some 38 := by kernel_rfl
theorem t94_zok : Cfg.zerOK ⟨Tryd.prog, own, verT, wr, md⟩ 94 = true := by kernel_rfl
theorem t94_zer : Cfg.zer ⟨Tryd.prog, own, verT, wr, md⟩ 94 = some [.nil] := by kernel_rfl
theorem t94_some : (Tryd.prog.underlying 94).isSome = true := by kernel_rfl
theorem t97_csz : Cfg.csz ⟨Tryd.prog, own, verT, wr, md⟩ 97 = some 1 := by kernel_rfl
theorem t97_bts : Cfg.bts ⟨Tryd.prog, own, verT, wr, md⟩ 97 = some 24 := by kernel_rfl
theorem t97_ag : Cfg.isAg ⟨Tryd.prog, own, verT, wr, md⟩ 97 = some false := by kernel_rfl
theorem t97_str : Cfg.isStr ⟨Tryd.prog, own, verT, wr, md⟩ 97 = false := by kernel_rfl
theorem t97_elem : Cfg.elemT ⟨Tryd.prog, own, verT, wr, md⟩ 97 = some 98 := by kernel_rfl
theorem t97_zok : Cfg.zerOK ⟨Tryd.prog, own, verT, wr, md⟩ 97 = true := by kernel_rfl
theorem t97_zer : Cfg.zer ⟨Tryd.prog, own, verT, wr, md⟩ 97 = some [.nil] := by kernel_rfl
theorem t97_some : (Tryd.prog.underlying 97).isSome = true := by kernel_rfl
theorem t98_csz : Cfg.csz ⟨Tryd.prog, own, verT, wr, md⟩ 98 = some 1 := by kernel_rfl
theorem t98_bts : Cfg.bts ⟨Tryd.prog, own, verT, wr, md⟩ 98 = some 24 := by kernel_rfl
theorem t98_ag : Cfg.isAg ⟨Tryd.prog, own, verT, wr, md⟩ 98 = some false := by kernel_rfl
theorem t98_str : Cfg.isStr ⟨Tryd.prog, own, verT, wr, md⟩ 98 = false := by kernel_rfl
theorem t98_elem : Cfg.elemT ⟨Tryd.prog, own, verT, wr, md⟩ 98 = some 34 := by kernel_rfl
theorem t98_zok : Cfg.zerOK ⟨Tryd.prog, own, verT, wr, md⟩ 98 = true := by kernel_rfl
theorem t98_zer : Cfg.zer ⟨Tryd.prog, own, verT, wr, md⟩ 98 = some [.nil] := by kernel_rfl
theorem t98_some : (Tryd.prog.underlying 98).isSome = true := by kernel_rfl
theorem t99_csz : Cfg.csz ⟨Tryd.prog, own, verT, wr, md⟩ 99 = some 8 := by kernel_rfl
theorem t99_bts : Cfg.bts ⟨Tryd.prog, own, verT, wr, md⟩ 99 = some 120 := by kernel_rfl
theorem t99_ag : Cfg.isAg ⟨Tryd.prog, own, verT, wr, md⟩ 99 = some true := by kernel_rfl
theorem t99_str : Cfg.isStr ⟨Tryd.prog, own, verT, wr, md⟩ 99 = false := by kernel_rfl
theorem t99_elem : Cfg.elemT ⟨Tryd.prog, own, verT, wr, md⟩ 99 = none := by kernel_rfl
theorem t99_zok : Cfg.zerOK ⟨Tryd.prog, own, verT, wr, md⟩ 99 = true := by kernel_rfl
theorem t99_zer : Cfg.zer ⟨Tryd.prog, own, verT, wr, md⟩ 99 = some [.v (.string ByteArray.empty), .v (.int .i64 0), .v (.int .i64 0), .v (.int .i64 0), .v (.int .i64 0), .nil, .nil, .nil] := by kernel_rfl
theorem t99_some : (Tryd.prog.underlying 99).isSome = true := by kernel_rfl
theorem t99_flds : Cfg.flds ⟨Tryd.prog, own, verT, wr, md⟩ 99 = some [(0, 1), (1, 3), (4, 1), (5, 1), (6, 1), (7, 1)] := by kernel_rfl
theorem t99_f0 : Cfg.foff ⟨Tryd.prog, own, verT, wr, md⟩ 99 0 = some (0, 9) := by kernel_rfl
theorem t99_f1 : Cfg.foff ⟨Tryd.prog, own, verT, wr, md⟩ 99 1 = some (1, 23) := by kernel_rfl
theorem t99_f2 : Cfg.foff ⟨Tryd.prog, own, verT, wr, md⟩ 99 2 = some (4, 2) := by kernel_rfl
theorem t99_f3 : Cfg.foff ⟨Tryd.prog, own, verT, wr, md⟩ 99 3 = some (5, 71) := by kernel_rfl
theorem t99_f4 : Cfg.foff ⟨Tryd.prog, own, verT, wr, md⟩ 99 4 = some (6, 97) := by kernel_rfl
theorem t99_f5 : Cfg.foff ⟨Tryd.prog, own, verT, wr, md⟩ 99 5 = some (7, 98) := by kernel_rfl
theorem t100_csz : Cfg.csz ⟨Tryd.prog, own, verT, wr, md⟩ 100 = some 8 := by kernel_rfl
theorem t100_bts : Cfg.bts ⟨Tryd.prog, own, verT, wr, md⟩ 100 = some 120 := by kernel_rfl
theorem t100_ag : Cfg.isAg ⟨Tryd.prog, own, verT, wr, md⟩ 100 = some true := by kernel_rfl
theorem t100_str : Cfg.isStr ⟨Tryd.prog, own, verT, wr, md⟩ 100 = false := by kernel_rfl
theorem t100_elem : Cfg.elemT ⟨Tryd.prog, own, verT, wr, md⟩ 100 = none := by kernel_rfl
theorem t100_zok : Cfg.zerOK ⟨Tryd.prog, own, verT, wr, md⟩ 100 = true := by kernel_rfl
theorem t100_zer : Cfg.zer ⟨Tryd.prog, own, verT, wr, md⟩ 100 = some [.v (.string ByteArray.empty), .v (.int .i64 0), .v (.int .i64 0), .v (.int .i64 0), .v (.int .i64 0), .nil, .nil, .nil] := by kernel_rfl
theorem t100_some : (Tryd.prog.underlying 100).isSome = true := by kernel_rfl
theorem t100_flds : Cfg.flds ⟨Tryd.prog, own, verT, wr, md⟩ 100 = some [(0, 1), (1, 3), (4, 1), (5, 1), (6, 1), (7, 1)] := by kernel_rfl
theorem t100_f0 : Cfg.foff ⟨Tryd.prog, own, verT, wr, md⟩ 100 0 = some (0, 9) := by kernel_rfl
theorem t100_f1 : Cfg.foff ⟨Tryd.prog, own, verT, wr, md⟩ 100 1 = some (1, 23) := by kernel_rfl
theorem t100_f2 : Cfg.foff ⟨Tryd.prog, own, verT, wr, md⟩ 100 2 = some (4, 2) := by kernel_rfl
theorem t100_f3 : Cfg.foff ⟨Tryd.prog, own, verT, wr, md⟩ 100 3 = some (5, 71) := by kernel_rfl
theorem t100_f4 : Cfg.foff ⟨Tryd.prog, own, verT, wr, md⟩ 100 4 = some (6, 97) := by kernel_rfl
theorem t100_f5 : Cfg.foff ⟨Tryd.prog, own, verT, wr, md⟩ 100 5 = some (7, 98) := by kernel_rfl
theorem t102_csz : Cfg.csz ⟨Tryd.prog, own, verT, wr, md⟩ 102 = some 1 := by kernel_rfl
theorem t102_bts : Cfg.bts ⟨Tryd.prog, own, verT, wr, md⟩ 102 = some 24 := by kernel_rfl
theorem t102_ag : Cfg.isAg ⟨Tryd.prog, own, verT, wr, md⟩ 102 = some false := by kernel_rfl
theorem t102_str : Cfg.isStr ⟨Tryd.prog, own, verT, wr, md⟩ 102 = false := by kernel_rfl
theorem t102_elem : Cfg.elemT ⟨Tryd.prog, own, verT, wr, md⟩ 102 = some 94 := by kernel_rfl
theorem t102_zok : Cfg.zerOK ⟨Tryd.prog, own, verT, wr, md⟩ 102 = true := by kernel_rfl
theorem t102_zer : Cfg.zer ⟨Tryd.prog, own, verT, wr, md⟩ 102 = some [.nil] := by kernel_rfl
theorem t102_some : (Tryd.prog.underlying 102).isSome = true := by kernel_rfl
theorem t103_csz : Cfg.csz ⟨Tryd.prog, own, verT, wr, md⟩ 103 = some 8 := by kernel_rfl
theorem t103_bts : Cfg.bts ⟨Tryd.prog, own, verT, wr, md⟩ 103 = some 120 := by kernel_rfl
theorem t103_ag : Cfg.isAg ⟨Tryd.prog, own, verT, wr, md⟩ 103 = some true := by kernel_rfl
theorem t103_str : Cfg.isStr ⟨Tryd.prog, own, verT, wr, md⟩ 103 = false := by kernel_rfl
theorem t103_elem : Cfg.elemT ⟨Tryd.prog, own, verT, wr, md⟩ 103 = none := by kernel_rfl
theorem t103_zok : Cfg.zerOK ⟨Tryd.prog, own, verT, wr, md⟩ 103 = true := by kernel_rfl
theorem t103_zer : Cfg.zer ⟨Tryd.prog, own, verT, wr, md⟩ 103 = some [.v (.string ByteArray.empty), .v (.int .i64 0), .v (.int .i64 0), .v (.int .i64 0), .v (.int .i64 0), .nil, .nil, .nil] := by kernel_rfl
theorem t103_some : (Tryd.prog.underlying 103).isSome = true := by kernel_rfl
theorem t103_flds : Cfg.flds ⟨Tryd.prog, own, verT, wr, md⟩ 103 = some [(0, 1), (1, 3), (4, 1), (5, 1), (6, 1), (7, 1)] := by kernel_rfl
theorem t103_f0 : Cfg.foff ⟨Tryd.prog, own, verT, wr, md⟩ 103 0 = some (0, 9) := by kernel_rfl
theorem t103_f1 : Cfg.foff ⟨Tryd.prog, own, verT, wr, md⟩ 103 1 = some (1, 25) := by kernel_rfl
theorem t103_f2 : Cfg.foff ⟨Tryd.prog, own, verT, wr, md⟩ 103 2 = some (4, 2) := by kernel_rfl
theorem t103_f3 : Cfg.foff ⟨Tryd.prog, own, verT, wr, md⟩ 103 3 = some (5, 71) := by kernel_rfl
theorem t103_f4 : Cfg.foff ⟨Tryd.prog, own, verT, wr, md⟩ 103 4 = some (6, 102) := by kernel_rfl
theorem t103_f5 : Cfg.foff ⟨Tryd.prog, own, verT, wr, md⟩ 103 5 = some (7, 94) := by kernel_rfl
theorem t104_csz : Cfg.csz ⟨Tryd.prog, own, verT, wr, md⟩ 104 = some 8 := by kernel_rfl
theorem t104_bts : Cfg.bts ⟨Tryd.prog, own, verT, wr, md⟩ 104 = some 120 := by kernel_rfl
theorem t104_ag : Cfg.isAg ⟨Tryd.prog, own, verT, wr, md⟩ 104 = some true := by kernel_rfl
theorem t104_str : Cfg.isStr ⟨Tryd.prog, own, verT, wr, md⟩ 104 = false := by kernel_rfl
theorem t104_elem : Cfg.elemT ⟨Tryd.prog, own, verT, wr, md⟩ 104 = none := by kernel_rfl
theorem t104_zok : Cfg.zerOK ⟨Tryd.prog, own, verT, wr, md⟩ 104 = true := by kernel_rfl
theorem t104_zer : Cfg.zer ⟨Tryd.prog, own, verT, wr, md⟩ 104 = some [.v (.string ByteArray.empty), .v (.int .i64 0), .v (.int .i64 0), .v (.int .i64 0), .v (.int .i64 0), .nil, .nil, .nil] := by kernel_rfl
theorem t104_some : (Tryd.prog.underlying 104).isSome = true := by kernel_rfl
theorem t104_flds : Cfg.flds ⟨Tryd.prog, own, verT, wr, md⟩ 104 = some [(0, 1), (1, 3), (4, 1), (5, 1), (6, 1), (7, 1)] := by kernel_rfl
theorem t104_f0 : Cfg.foff ⟨Tryd.prog, own, verT, wr, md⟩ 104 0 = some (0, 9) := by kernel_rfl
theorem t104_f1 : Cfg.foff ⟨Tryd.prog, own, verT, wr, md⟩ 104 1 = some (1, 25) := by kernel_rfl
theorem t104_f2 : Cfg.foff ⟨Tryd.prog, own, verT, wr, md⟩ 104 2 = some (4, 2) := by kernel_rfl
theorem t104_f3 : Cfg.foff ⟨Tryd.prog, own, verT, wr, md⟩ 104 3 = some (5, 71) := by kernel_rfl
theorem t104_f4 : Cfg.foff ⟨Tryd.prog, own, verT, wr, md⟩ 104 4 = some (6, 102) := by kernel_rfl
theorem t104_f5 : Cfg.foff ⟨Tryd.prog, own, verT, wr, md⟩ 104 5 = some (7, 94) := by kernel_rfl
theorem t114_csz : Cfg.csz ⟨Tryd.prog, own, verT, wr, md⟩ 114 = some 2 := by kernel_rfl
theorem t114_bts : Cfg.bts ⟨Tryd.prog, own, verT, wr, md⟩ 114 = some 32 := by kernel_rfl
theorem t114_ag : Cfg.isAg ⟨Tryd.prog, own, verT, wr, md⟩ 114 = some true := by kernel_rfl
theorem t114_str : Cfg.isStr ⟨Tryd.prog, own, verT, wr, md⟩ 114 = false := by kernel_rfl
theorem t114_elem : Cfg.elemT ⟨Tryd.prog, own, verT, wr, md⟩ 114 = none := by kernel_rfl
theorem t114_zok : Cfg.zerOK ⟨Tryd.prog, own, verT, wr, md⟩ 114 = true := by kernel_rfl
theorem t114_zer : Cfg.zer ⟨Tryd.prog, own, verT, wr, md⟩ 114 = some [.nil, .v (.int .i64 0)] := by kernel_rfl
theorem t114_some : (Tryd.prog.underlying 114).isSome = true := by kernel_rfl
theorem t114_flds : Cfg.flds ⟨Tryd.prog, own, verT, wr, md⟩ 114 = some [(0, 1), (1, 1)] := by kernel_rfl
theorem t114_f0 : Cfg.foff ⟨Tryd.prog, own, verT, wr, md⟩ 114 0 = some (0, 41) := by kernel_rfl
theorem t114_f1 : Cfg.foff ⟨Tryd.prog, own, verT, wr, md⟩ 114 1 = some (1, 2) := by kernel_rfl
theorem t115_csz : Cfg.csz ⟨Tryd.prog, own, verT, wr, md⟩ 115 = some 2 := by kernel_rfl
theorem t115_bts : Cfg.bts ⟨Tryd.prog, own, verT, wr, md⟩ 115 = some 32 := by kernel_rfl
theorem t115_ag : Cfg.isAg ⟨Tryd.prog, own, verT, wr, md⟩ 115 = some true := by kernel_rfl
theorem t115_str : Cfg.isStr ⟨Tryd.prog, own, verT, wr, md⟩ 115 = false := by kernel_rfl
theorem t115_elem : Cfg.elemT ⟨Tryd.prog, own, verT, wr, md⟩ 115 = none := by kernel_rfl
theorem t115_zok : Cfg.zerOK ⟨Tryd.prog, own, verT, wr, md⟩ 115 = true := by kernel_rfl
theorem t115_zer : Cfg.zer ⟨Tryd.prog, own, verT, wr, md⟩ 115 = some [.nil, .v (.int .i64 0)] := by kernel_rfl
theorem t115_some : (Tryd.prog.underlying 115).isSome = true := by kernel_rfl
theorem t115_flds : Cfg.flds ⟨Tryd.prog, own, verT, wr, md⟩ 115 = some [(0, 1), (1, 1)] := by kernel_rfl
theorem t115_f0 : Cfg.foff ⟨Tryd.prog, own, verT, wr, md⟩ 115 0 = some (0, 41) := by kernel_rfl
theorem t115_f1 : Cfg.foff ⟨Tryd.prog, own, verT, wr, md⟩ 115 1 = some (1, 2) := by kernel_rfl
theorem t138_csz : Cfg.csz ⟨Tryd.prog, own, verT, wr, md⟩ 138 = some 1 := by kernel_rfl
theorem t138_bts : Cfg.bts ⟨Tryd.prog, own, verT, wr, md⟩ 138 = some 24 := by kernel_rfl
theorem t138_ag : Cfg.isAg ⟨Tryd.prog, own, verT, wr, md⟩ 138 = some false := by kernel_rfl
theorem t138_str : Cfg.isStr ⟨Tryd.prog, own, verT, wr, md⟩ 138 = false := by kernel_rfl
theorem t138_elem : Cfg.elemT ⟨Tryd.prog, own, verT, wr, md⟩ 138 = some 3 := by kernel_rfl
theorem t138_zok : Cfg.zerOK ⟨Tryd.prog, own, verT, wr, md⟩ 138 = true := by kernel_rfl
theorem t138_zer : Cfg.zer ⟨Tryd.prog, own, verT, wr, md⟩ 138 = some [.nil] := by kernel_rfl
theorem t138_some : (Tryd.prog.underlying 138).isSome = true := by kernel_rfl
theorem t166_csz : Cfg.csz ⟨Tryd.prog, own, verT, wr, md⟩ 166 = some 1 := by kernel_rfl
theorem t166_bts : Cfg.bts ⟨Tryd.prog, own, verT, wr, md⟩ 166 = some 8 := by kernel_rfl
theorem t166_ag : Cfg.isAg ⟨Tryd.prog, own, verT, wr, md⟩ 166 = some false := by kernel_rfl
theorem t166_str : Cfg.isStr ⟨Tryd.prog, own, verT, wr, md⟩ 166 = false := by kernel_rfl
theorem t166_int : Cfg.intK ⟨Tryd.prog, own, verT, wr, md⟩ 166 = some .u64 := by kernel_rfl
theorem t166_elem : Cfg.elemT ⟨Tryd.prog, own, verT, wr, md⟩ 166 = none := by kernel_rfl
theorem t166_zok : Cfg.zerOK ⟨Tryd.prog, own, verT, wr, md⟩ 166 = true := by kernel_rfl
theorem t166_zer : Cfg.zer ⟨Tryd.prog, own, verT, wr, md⟩ 166 = some [.v (.int .u64 0)] := by kernel_rfl
theorem t166_some : (Tryd.prog.underlying 166).isSome = true := by kernel_rfl
theorem t172_csz : Cfg.csz ⟨Tryd.prog, own, verT, wr, md⟩ 172 = some 1 := by kernel_rfl
theorem t172_bts : Cfg.bts ⟨Tryd.prog, own, verT, wr, md⟩ 172 = some 8 := by kernel_rfl
theorem t172_ag : Cfg.isAg ⟨Tryd.prog, own, verT, wr, md⟩ 172 = some false := by kernel_rfl
theorem t172_str : Cfg.isStr ⟨Tryd.prog, own, verT, wr, md⟩ 172 = false := by kernel_rfl
theorem t172_int : Cfg.intK ⟨Tryd.prog, own, verT, wr, md⟩ 172 = some .u64 := by kernel_rfl
theorem t172_elem : Cfg.elemT ⟨Tryd.prog, own, verT, wr, md⟩ 172 = none := by kernel_rfl
theorem t172_zok : Cfg.zerOK ⟨Tryd.prog, own, verT, wr, md⟩ 172 = true := by kernel_rfl
theorem t172_zer : Cfg.zer ⟨Tryd.prog, own, verT, wr, md⟩ 172 = some [.v (.int .u64 0)] := by kernel_rfl
theorem t172_some : (Tryd.prog.underlying 172).isSome = true := by kernel_rfl
theorem t178_csz : Cfg.csz ⟨Tryd.prog, own, verT, wr, md⟩ 178 = some 1 := by kernel_rfl
theorem t178_bts : Cfg.bts ⟨Tryd.prog, own, verT, wr, md⟩ 178 = some 4 := by kernel_rfl
theorem t178_ag : Cfg.isAg ⟨Tryd.prog, own, verT, wr, md⟩ 178 = some false := by kernel_rfl
theorem t178_str : Cfg.isStr ⟨Tryd.prog, own, verT, wr, md⟩ 178 = false := by kernel_rfl
theorem t178_int : Cfg.intK ⟨Tryd.prog, own, verT, wr, md⟩ 178 = some .u32 := by kernel_rfl
theorem t178_elem : Cfg.elemT ⟨Tryd.prog, own, verT, wr, md⟩ 178 = none := by kernel_rfl
theorem t178_zok : Cfg.zerOK ⟨Tryd.prog, own, verT, wr, md⟩ 178 = true := by kernel_rfl
theorem t178_zer : Cfg.zer ⟨Tryd.prog, own, verT, wr, md⟩ 178 = some [.v (.int .u32 0)] := by kernel_rfl
theorem t178_some : (Tryd.prog.underlying 178).isSome = true := by kernel_rfl
theorem t183_csz : Cfg.csz ⟨Tryd.prog, own, verT, wr, md⟩ 183 = some 2 := by kernel_rfl
theorem t183_bts : Cfg.bts ⟨Tryd.prog, own, verT, wr, md⟩ 183 = some 2 := by kernel_rfl
theorem t183_ag : Cfg.isAg ⟨Tryd.prog, own, verT, wr, md⟩ 183 = some true := by kernel_rfl
theorem t183_str : Cfg.isStr ⟨Tryd.prog, own, verT, wr, md⟩ 183 = false := by kernel_rfl
theorem t183_elem : Cfg.elemT ⟨Tryd.prog, own, verT, wr, md⟩ 183 = none := by kernel_rfl
theorem t183_zok : Cfg.zerOK ⟨Tryd.prog, own, verT, wr, md⟩ 183 = true := by kernel_rfl
theorem t183_zer : Cfg.zer ⟨Tryd.prog, own, verT, wr, md⟩ 183 = some [.v (.int .u8 0), .v (.int .u8 0)] := by kernel_rfl
theorem t183_some : (Tryd.prog.underlying 183).isSome = true := by kernel_rfl
theorem t183_flds : Cfg.flds ⟨Tryd.prog, own, verT, wr, md⟩ 183 = some [(0, 1), (1, 1)] := by kernel_rfl
theorem t183_f0 : Cfg.foff ⟨Tryd.prog, own, verT, wr, md⟩ 183 0 = some (0, 5) := by kernel_rfl
theorem t183_f1 : Cfg.foff ⟨Tryd.prog, own, verT, wr, md⟩ 183 1 = some (1, 5) := by kernel_rfl
theorem t184_csz : Cfg.csz ⟨Tryd.prog, own, verT, wr, md⟩ 184 = some 2 := by kernel_rfl
theorem t184_bts : Cfg.bts ⟨Tryd.prog, own, verT, wr, md⟩ 184 = some 2 := by kernel_rfl
theorem t184_ag : Cfg.isAg ⟨Tryd.prog, own, verT, wr, md⟩ 184 = some true := by kernel_rfl
theorem t184_str : Cfg.isStr ⟨Tryd.prog, own, verT, wr, md⟩ 184 = false := by kernel_rfl
theorem t184_elem : Cfg.elemT ⟨Tryd.prog, own, verT, wr, md⟩ 184 = none := by kernel_rfl
theorem t184_zok : Cfg.zerOK ⟨Tryd.prog, own, verT, wr, md⟩ 184 = true := by kernel_rfl
theorem t184_zer : Cfg.zer ⟨Tryd.prog, own, verT, wr, md⟩ 184 = some [.v (.int .u8 0), .v (.int .u8 0)] := by kernel_rfl
theorem t184_some : (Tryd.prog.underlying 184).isSome = true := by kernel_rfl
theorem t184_flds : Cfg.flds ⟨Tryd.prog, own, verT, wr, md⟩ 184 = some [(0, 1), (1, 1)] := by kernel_rfl
theorem t184_f0 : Cfg.foff ⟨Tryd.prog, own, verT, wr, md⟩ 184 0 = some (0, 5) := by kernel_rfl
theorem t184_f1 : Cfg.foff ⟨Tryd.prog, own, verT, wr, md⟩ 184 1 = some (1, 5) := by kernel_rfl
theorem t197_csz : Cfg.csz ⟨Tryd.prog, own, verT, wr, md⟩ 197 = some 1 := by kernel_rfl
theorem t197_bts : Cfg.bts ⟨Tryd.prog, own, verT, wr, md⟩ 197 = some 1 := by kernel_rfl
theorem t197_ag : Cfg.isAg ⟨Tryd.prog, own, verT, wr, md⟩ 197 = some false := by kernel_rfl
theorem t197_str : Cfg.isStr ⟨Tryd.prog, own, verT, wr, md⟩ 197 = false := by kernel_rfl
theorem t197_int : Cfg.intK ⟨Tryd.prog, own, verT, wr, md⟩ 197 = some .u8 := by kernel_rfl
theorem t197_elem : Cfg.elemT ⟨Tryd.prog, own, verT, wr, md⟩ 197 = none := by kernel_rfl
theorem t197_zok : Cfg.zerOK ⟨Tryd.prog, own, verT, wr, md⟩ 197 = true := by kernel_rfl
theorem t197_zer : Cfg.zer ⟨Tryd.prog, own, verT, wr, md⟩ 197 = some [.v (.int .u8 0)] := by kernel_rfl
theorem t197_some : (Tryd.prog.underlying 197).isSome = true := by kernel_rfl
theorem t198_csz : Cfg.csz ⟨Tryd.prog, own, verT, wr, md⟩ 198 = some 1 := by kernel_rfl
theorem t198_bts : Cfg.bts ⟨Tryd.prog, own, verT, wr, md⟩ 198 = some 1 := by kernel_rfl
theorem t198_ag : Cfg.isAg ⟨Tryd.prog, own, verT, wr, md⟩ 198 = some false := by kernel_rfl
theorem t198_str : Cfg.isStr ⟨Tryd.prog, own, verT, wr, md⟩ 198 = false := by kernel_rfl
theorem t198_int : Cfg.intK ⟨Tryd.prog, own, verT, wr, md⟩ 198 = some .u8 := by kernel_rfl
theorem t198_elem : Cfg.elemT ⟨Tryd.prog, own, verT, wr, md⟩ 198 = none := by kernel_rfl
theorem t198_zok : Cfg.zerOK ⟨Tryd.prog, own, verT, wr, md⟩ 198 = true := by kernel_rfl
theorem t198_zer : Cfg.zer ⟨Tryd.prog, own, verT, wr, md⟩ 198 = some [.v (.int .u8 0)] := by kernel_rfl
theorem t198_some : (Tryd.prog.underlying 198).isSome = true := by kernel_rfl
theorem t200_csz : Cfg.csz ⟨Tryd.prog, own, verT, wr, md⟩ 200 = some 1 := by kernel_rfl
theorem t200_bts : Cfg.bts ⟨Tryd.prog, own, verT, wr, md⟩ 200 = some 4 := by kernel_rfl
theorem t200_ag : Cfg.isAg ⟨Tryd.prog, own, verT, wr, md⟩ 200 = some false := by kernel_rfl
theorem t200_str : Cfg.isStr ⟨Tryd.prog, own, verT, wr, md⟩ 200 = false := by kernel_rfl
theorem t200_int : Cfg.intK ⟨Tryd.prog, own, verT, wr, md⟩ 200 = some .i32 := by kernel_rfl
theorem t200_elem : Cfg.elemT ⟨Tryd.prog, own, verT, wr, md⟩ 200 = none := by kernel_rfl
theorem t200_zok : Cfg.zerOK ⟨Tryd.prog, own, verT, wr, md⟩ 200 = true := by kernel_rfl
theorem t200_zer : Cfg.zer ⟨Tryd.prog, own, verT, wr, md⟩ 200 = some [.v (.int .i32 0)] := by kernel_rfl
theorem t200_some : (Tryd.prog.underlying 200).isSome = true := by kernel_rfl
theorem t201_csz : Cfg.csz ⟨Tryd.prog, own, verT, wr, md⟩ 201 = some 1 := by kernel_rfl
theorem t201_bts : Cfg.bts ⟨Tryd.prog, own, verT, wr, md⟩ 201 = some 4 := by kernel_rfl
theorem t201_ag : Cfg.isAg ⟨Tryd.prog, own, verT, wr, md⟩ 201 = some false := by kernel_rfl
theorem t201_str : Cfg.isStr ⟨Tryd.prog, own, verT, wr, md⟩ 201 = false := by kernel_rfl
theorem t201_int : Cfg.intK ⟨Tryd.prog, own, verT, wr, md⟩ 201 = some .i32 := by kernel_rfl
theorem t201_elem : Cfg.elemT ⟨Tryd.prog, own, verT, wr, md⟩ 201 = none := by kernel_rfl
theorem t201_zok : Cfg.zerOK ⟨Tryd.prog, own, verT, wr, md⟩ 201 = true := by kernel_rfl
theorem t201_zer : Cfg.zer ⟨Tryd.prog, own, verT, wr, md⟩ 201 = some [.v (.int .i32 0)] := by kernel_rfl
theorem t201_some : (Tryd.prog.underlying 201).isSome = true := by kernel_rfl
end
attribute [simp] t2_csz t2_bts t2_ag t2_str t2_int t2_elem t2_zok t2_zer t2_some t3_csz t3_bts t3_ag t3_str t3_int t3_elem t3_zok t3_zer t3_some t4_csz t4_bts t4_ag t4_str t4_bool t4_elem t4_zok t4_zer t4_some t5_csz t5_bts t5_ag t5_str t5_int t5_elem t5_zok t5_zer t5_some t6_csz t6_bts t6_ag t6_str
attribute [simp] t6_int t6_elem t6_zok t6_zer t6_some t7_csz t7_bts t7_ag t7_str t7_elem t7_zok t7_zer t7_some t7_flds t7_f0 t7_f1 t7_f2 t7_f3 t8_csz t8_bts t8_ag t8_str t8_elem t8_zok t8_zer t8_some t8_flds t8_f0 t8_f1 t8_f2 t8_f3 t9_csz t9_bts t9_ag t9_str t9_elem t9_zok t9_zer t9_some t10_csz
attribute [simp] t10_bts t10_ag t10_str t10_elem t10_zok t10_zer t10_some t11_csz t11_bts t11_ag t11_str t11_elem t11_zok t11_zer t11_some t12_csz t12_bts t12_ag t12_str t12_int t12_elem t12_zok t12_zer t12_some t13_csz t13_bts t13_ag t13_str t13_elem t13_zok t13_zer t13_some t13_flds t13_f0 t13_f1 t14_csz t14_bts t14_ag t14_str t14_elem
attribute [simp] t14_zok t14_zer t14_some t14_flds t14_f0 t14_f1 t21_csz t21_bts t21_ag t21_str t21_int t21_elem t21_zok t21_zer t21_some t22_csz t22_bts t22_ag t22_str t22_elem t22_zok t22_zer t22_some t22_flds t22_f0 t22_f1 t22_f2 t23_csz t23_bts t23_ag t23_str t23_elem t23_zok t23_zer t23_some t23_flds t23_f0 t23_f1 t23_f2 t25_csz
attribute [simp] t25_bts t25_ag t25_str t25_elem t25_zok t25_zer t25_some t25_flds t25_f0 t25_f1 t25_f2 t28_csz t28_bts t28_ag t28_str t28_elem t28_zok t28_zer t28_some t28_flds t28_f0 t28_f1 t29_csz t29_bts t29_ag t29_str t29_elem t29_zok t29_zer t29_some t29_flds t29_f0 t29_f1 t33_csz t33_bts t33_ag t33_str t33_elem t33_zok t33_zer
attribute [simp] t33_some t33_flds t33_f0 t33_f1 t33_f2 t34_csz t34_bts t34_ag t34_str t34_elem t34_zok t34_zer t34_some t34_flds t34_f0 t34_f1 t34_f2 t37_csz t37_bts t37_ag t37_str t37_elem t37_zok t37_zer t37_some t37_flds t37_f0 t37_f1 t37_f2 t38_csz t38_bts t38_ag t38_str t38_elem t38_zok t38_zer t38_some t38_flds t38_f0 t38_f1
attribute [simp] t38_f2 t41_csz t41_bts t41_ag t41_str t41_elem t41_zok t41_zer t41_some t47_csz t47_bts t47_ag t47_str t47_elem t47_zok t47_zer t47_some t47_flds t47_f0 t47_f1 t48_csz t48_bts t48_ag t48_str t48_elem t48_zok t48_zer t48_some t48_flds t48_f0 t48_f1 t57_csz t57_bts t57_ag t57_str t57_elem t57_zok t57_zer t57_some t58_csz
attribute [simp] t58_bts t58_ag t58_str t58_elem t58_zok t58_zer t58_some t61_csz t61_bts t61_ag t61_str t61_elem t61_zok t61_zer t61_some t71_csz t71_bts t71_ag t71_str t71_elem t71_zok t71_zer t71_some t76_csz t76_bts t76_ag t76_str t76_elem t76_zok t76_zer t76_some t76_flds t76_arr t94_csz t94_bts t94_ag t94_str t94_elem t94_zok t94_zer
attribute [simp] t94_some t97_csz t97_bts t97_ag t97_str t97_elem t97_zok t97_zer t97_some t98_csz t98_bts t98_ag t98_str t98_elem t98_zok t98_zer t98_some t99_csz t99_bts t99_ag t99_str t99_elem t99_zok t99_zer t99_some t99_flds t99_f0 t99_f1 t99_f2 t99_f3 t99_f4 t99_f5 t100_csz t100_bts t100_ag t100_str t100_elem t100_zok t100_zer t100_some
attribute [simp] t100_flds t100_f0 t100_f1 t100_f2 t100_f3 t100_f4 t100_f5 t102_csz t102_bts t102_ag t102_str t102_elem t102_zok t102_zer t102_some t103_csz t103_bts t103_ag t103_str t103_elem t103_zok t103_zer t103_some t103_flds t103_f0 t103_f1 t103_f2 t103_f3 t103_f4 t103_f5 t104_csz t104_bts t104_ag t104_str t104_elem t104_zok t104_zer t104_some t104_flds t104_f0
attribute [simp] t104_f1 t104_f2 t104_f3 t104_f4 t104_f5 t114_csz t114_bts t114_ag t114_str t114_elem t114_zok t114_zer t114_some t114_flds t114_f0 t114_f1 t115_csz t115_bts t115_ag t115_str t115_elem t115_zok t115_zer t115_some t115_flds t115_f0 t115_f1 t138_csz t138_bts t138_ag t138_str t138_elem t138_zok t138_zer t138_some t166_csz t166_bts t166_ag t166_str t166_int
attribute [simp] t166_elem t166_zok t166_zer t166_some t172_csz t172_bts t172_ag t172_str t172_int t172_elem t172_zok t172_zer t172_some t178_csz t178_bts t178_ag t178_str t178_int t178_elem t178_zok t178_zer t178_some t183_csz t183_bts t183_ag t183_str t183_elem t183_zok t183_zer t183_some t183_flds t183_f0 t183_f1 t184_csz t184_bts t184_ag t184_str t184_elem t184_zok t184_zer
attribute [simp] t184_some t184_flds t184_f0 t184_f1 t197_csz t197_bts t197_ag t197_str t197_int t197_elem t197_zok t197_zer t197_some t198_csz t198_bts t198_ag t198_str t198_int t198_elem t198_zok t198_zer t198_some t200_csz t200_bts t200_ag t200_str t200_int t200_elem t200_zok t200_zer t200_some t201_csz t201_bts t201_ag t201_str t201_int t201_elem t201_zok t201_zer t201_some
end Go.Proofs.YtokhnmchnfkiiaaDoor.Am
