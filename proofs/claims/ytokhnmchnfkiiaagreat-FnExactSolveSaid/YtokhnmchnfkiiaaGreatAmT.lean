/- Facts about the types of the program. No conditions. -/
import Derived.Test.YtokhnmchnfkiiaaGreatProg
import Derived.Test.YtokhnmchnfkiiaaGreatAmS
namespace Go.Proofs.YtokhnmchnfkiiaaGreat.Am
open Go Go.RowKit Go.Proofs
set_option linter.unusedSimpArgs false
set_option linter.unusedVariables false
section
variable (own verT wr : Nat → Bool) (md : Nat)
theorem t2_csz : Cfg.csz ⟨Tryz.prog, own, verT, wr, md⟩ 2 = some 1 := by kernel_rfl
theorem t2_bts : Cfg.bts ⟨Tryz.prog, own, verT, wr, md⟩ 2 = some 8 := by kernel_rfl
theorem t2_ag : Cfg.isAg ⟨Tryz.prog, own, verT, wr, md⟩ 2 = some false := by kernel_rfl
theorem t2_str : Cfg.isStr ⟨Tryz.prog, own, verT, wr, md⟩ 2 = false := by kernel_rfl
theorem t2_int : Cfg.intK ⟨Tryz.prog, own, verT, wr, md⟩ 2 = some .i64 := by kernel_rfl
theorem t2_elem : Cfg.elemT ⟨Tryz.prog, own, verT, wr, md⟩ 2 = none := by kernel_rfl
theorem t2_zok : Cfg.zerOK ⟨Tryz.prog, own, verT, wr, md⟩ 2 = true := by kernel_rfl
theorem t2_zer : Cfg.zer ⟨Tryz.prog, own, verT, wr, md⟩ 2 = some [.v (.int .i64 0)] := by kernel_rfl
theorem t2_some : (Tryz.prog.underlying 2).isSome = true := by kernel_rfl
theorem t3_csz : Cfg.csz ⟨Tryz.prog, own, verT, wr, md⟩ 3 = some 1 := by kernel_rfl
theorem t3_bts : Cfg.bts ⟨Tryz.prog, own, verT, wr, md⟩ 3 = some 8 := by kernel_rfl
theorem t3_ag : Cfg.isAg ⟨Tryz.prog, own, verT, wr, md⟩ 3 = some false := by kernel_rfl
theorem t3_str : Cfg.isStr ⟨Tryz.prog, own, verT, wr, md⟩ 3 = false := by kernel_rfl
theorem t3_int : Cfg.intK ⟨Tryz.prog, own, verT, wr, md⟩ 3 = some .i64 := by kernel_rfl
theorem t3_elem : Cfg.elemT ⟨Tryz.prog, own, verT, wr, md⟩ 3 = none := by kernel_rfl
theorem t3_zok : Cfg.zerOK ⟨Tryz.prog, own, verT, wr, md⟩ 3 = true := by kernel_rfl
theorem t3_zer : Cfg.zer ⟨Tryz.prog, own, verT, wr, md⟩ 3 = some [.v (.int .i64 0)] := by kernel_rfl
theorem t3_some : (Tryz.prog.underlying 3).isSome = true := by kernel_rfl
theorem t4_csz : Cfg.csz ⟨Tryz.prog, own, verT, wr, md⟩ 4 = some 1 := by kernel_rfl
theorem t4_bts : Cfg.bts ⟨Tryz.prog, own, verT, wr, md⟩ 4 = some 1 := by kernel_rfl
theorem t4_ag : Cfg.isAg ⟨Tryz.prog, own, verT, wr, md⟩ 4 = some false := by kernel_rfl
theorem t4_str : Cfg.isStr ⟨Tryz.prog, own, verT, wr, md⟩ 4 = false := by kernel_rfl
theorem t4_bool : Cfg.isBool ⟨Tryz.prog, own, verT, wr, md⟩ 4 = true := by kernel_rfl
theorem t4_elem : Cfg.elemT ⟨Tryz.prog, own, verT, wr, md⟩ 4 = none := by kernel_rfl
theorem t4_zok : Cfg.zerOK ⟨Tryz.prog, own, verT, wr, md⟩ 4 = true := by kernel_rfl
theorem t4_zer : Cfg.zer ⟨Tryz.prog, own, verT, wr, md⟩ 4 = some [.v (.bool false)] := by kernel_rfl
theorem t4_some : (Tryz.prog.underlying 4).isSome = true := by kernel_rfl
theorem t5_csz : Cfg.csz ⟨Tryz.prog, own, verT, wr, md⟩ 5 = some 1 := by kernel_rfl
theorem t5_bts : Cfg.bts ⟨Tryz.prog, own, verT, wr, md⟩ 5 = some 1 := by kernel_rfl
theorem t5_ag : Cfg.isAg ⟨Tryz.prog, own, verT, wr, md⟩ 5 = some false := by kernel_rfl
theorem t5_str : Cfg.isStr ⟨Tryz.prog, own, verT, wr, md⟩ 5 = false := by kernel_rfl
theorem t5_int : Cfg.intK ⟨Tryz.prog, own, verT, wr, md⟩ 5 = some .u8 := by kernel_rfl
theorem t5_elem : Cfg.elemT ⟨Tryz.prog, own, verT, wr, md⟩ 5 = none := by kernel_rfl
theorem t5_zok : Cfg.zerOK ⟨Tryz.prog, own, verT, wr, md⟩ 5 = true := by kernel_rfl
theorem t5_zer : Cfg.zer ⟨Tryz.prog, own, verT, wr, md⟩ 5 = some [.v (.int .u8 0)] := by kernel_rfl
theorem t5_some : (Tryz.prog.underlying 5).isSome = true := by kernel_rfl
theorem t6_csz : Cfg.csz ⟨Tryz.prog, own, verT, wr, md⟩ 6 = some 1 := by kernel_rfl
theorem t6_bts : Cfg.bts ⟨Tryz.prog, own, verT, wr, md⟩ 6 = some 1 := by kernel_rfl
theorem t6_ag : Cfg.isAg ⟨Tryz.prog, own, verT, wr, md⟩ 6 = some false := by kernel_rfl
theorem t6_str : Cfg.isStr ⟨Tryz.prog, own, verT, wr, md⟩ 6 = false := by kernel_rfl
theorem t6_int : Cfg.intK ⟨Tryz.prog, own, verT, wr, md⟩ 6 = some .u8 := by kernel_rfl
theorem t6_elem : Cfg.elemT ⟨Tryz.prog, own, verT, wr, md⟩ 6 = none := by kernel_rfl
theorem t6_zok : Cfg.zerOK ⟨Tryz.prog, own, verT, wr, md⟩ 6 = true := by kernel_rfl
theorem t6_zer : Cfg.zer ⟨Tryz.prog, own, verT, wr, md⟩ 6 = some [.v (.int .u8 0)] := by kernel_rfl
theorem t6_some : (Tryz.prog.underlying 6).isSome = true := by kernel_rfl
theorem t7_csz : Cfg.csz ⟨Tryz.prog, own, verT, wr, md⟩ 7 = some 4 := by kernel_rfl
theorem t7_bts : Cfg.bts ⟨Tryz.prog, own, verT, wr, md⟩ 7 = some 24 := by kernel_rfl
theorem t7_ag : Cfg.isAg ⟨Tryz.prog, own, verT, wr, md⟩ 7 = some true := by kernel_rfl
theorem t7_str : Cfg.isStr ⟨Tryz.prog, own, verT, wr, md⟩ 7 = false := by kernel_rfl
theorem t7_elem : Cfg.elemT ⟨Tryz.prog, own, verT, wr, md⟩ 7 = none := by kernel_rfl
theorem t7_zok : Cfg.zerOK ⟨Tryz.prog, own, verT, wr, md⟩ 7 = true := by kernel_rfl
theorem t7_zer : Cfg.zer ⟨Tryz.prog, own, verT, wr, md⟩ 7 = some [.v (.int .i64 0), .v (.int .i64 0), .v (.bool false), .v (.int .u8 0)] := by kernel_rfl
theorem t7_some : (Tryz.prog.underlying 7).isSome = true := by kernel_rfl
theorem t7_flds : Cfg.flds ⟨Tryz.prog, own, verT, wr, md⟩ 7 = some [(0, 1), (1, 1), (2, 1), (3, 1)] := by kernel_rfl
theorem t7_f0 : Cfg.foff ⟨Tryz.prog, own, verT, wr, md⟩ 7 0 = some (0, 2) := by kernel_rfl
theorem t7_f1 : Cfg.foff ⟨Tryz.prog, own, verT, wr, md⟩ 7 1 = some (1, 3) := by kernel_rfl
theorem t7_f2 : Cfg.foff ⟨Tryz.prog, own, verT, wr, md⟩ 7 2 = some (2, 4) := by kernel_rfl
theorem t7_f3 : Cfg.foff ⟨Tryz.prog, own, verT, wr, md⟩ 7 3 = some (3, 6) := by kernel_rfl
theorem t8_csz : Cfg.csz ⟨Tryz.prog, own, verT, wr, md⟩ 8 = some 4 := by kernel_rfl
theorem t8_bts : Cfg.bts ⟨Tryz.prog, own, verT, wr, md⟩ 8 = some 24 := by kernel_rfl
theorem t8_ag : Cfg.isAg ⟨Tryz.prog, own, verT, wr, md⟩ 8 = some true := by kernel_rfl
theorem t8_str : Cfg.isStr ⟨Tryz.prog, own, verT, wr, md⟩ 8 = false := by kernel_rfl
theorem t8_elem : Cfg.elemT ⟨Tryz.prog, own, verT, wr, md⟩ 8 = none := by kernel_rfl
theorem t8_zok : Cfg.zerOK ⟨Tryz.prog, own, verT, wr, md⟩ 8 = true := by kernel_rfl
theorem t8_zer : Cfg.zer ⟨Tryz.prog, own, verT, wr, md⟩ 8 = some [.v (.int .i64 0), .v (.int .i64 0), .v (.bool false), .v (.int .u8 0)] := by kernel_rfl
theorem t8_some : (Tryz.prog.underlying 8).isSome = true := by kernel_rfl
theorem t8_flds : Cfg.flds ⟨Tryz.prog, own, verT, wr, md⟩ 8 = some [(0, 1), (1, 1), (2, 1), (3, 1)] := by kernel_rfl
theorem t8_f0 : Cfg.foff ⟨Tryz.prog, own, verT, wr, md⟩ 8 0 = some (0, 2) := by kernel_rfl
theorem t8_f1 : Cfg.foff ⟨Tryz.prog, own, verT, wr, md⟩ 8 1 = some (1, 3) := by kernel_rfl
theorem t8_f2 : Cfg.foff ⟨Tryz.prog, own, verT, wr, md⟩ 8 2 = some (2, 4) := by kernel_rfl
theorem t8_f3 : Cfg.foff ⟨Tryz.prog, own, verT, wr, md⟩ 8 3 = some (3, 6) := by kernel_rfl
theorem t9_csz : Cfg.csz ⟨Tryz.prog, own, verT, wr, md⟩ 9 = some 1 := by kernel_rfl
theorem t9_bts : Cfg.bts ⟨Tryz.prog, own, verT, wr, md⟩ 9 = some 16 := by kernel_rfl
theorem t9_ag : Cfg.isAg ⟨Tryz.prog, own, verT, wr, md⟩ 9 = some false := by kernel_rfl
theorem t9_str : Cfg.isStr ⟨Tryz.prog, own, verT, wr, md⟩ 9 = true := by kernel_rfl
theorem t9_elem : Cfg.elemT ⟨Tryz.prog, own, verT, wr, md⟩ 9 = none := by kernel_rfl
theorem t9_zok : Cfg.zerOK ⟨Tryz.prog, own, verT, wr, md⟩ 9 = true := by kernel_rfl
theorem t9_zer : Cfg.zer ⟨Tryz.prog, own, verT, wr, md⟩ 9 = some [.v (.string ByteArray.empty)] := by kernel_rfl
theorem t9_some : (Tryz.prog.underlying 9).isSome = true := by kernel_rfl
theorem t10_csz : Cfg.csz ⟨Tryz.prog, own, verT, wr, md⟩ 10 = some 1 := by kernel_rfl
theorem t10_bts : Cfg.bts ⟨Tryz.prog, own, verT, wr, md⟩ 10 = some 16 := by kernel_rfl
theorem t10_ag : Cfg.isAg ⟨Tryz.prog, own, verT, wr, md⟩ 10 = some false := by kernel_rfl
theorem t10_str : Cfg.isStr ⟨Tryz.prog, own, verT, wr, md⟩ 10 = true := by kernel_rfl
theorem t10_elem : Cfg.elemT ⟨Tryz.prog, own, verT, wr, md⟩ 10 = none := by kernel_rfl
theorem t10_zok : Cfg.zerOK ⟨Tryz.prog, own, verT, wr, md⟩ 10 = true := by kernel_rfl
theorem t10_zer : Cfg.zer ⟨Tryz.prog, own, verT, wr, md⟩ 10 = some [.v (.string ByteArray.empty)] := by kernel_rfl
theorem t10_some : (Tryz.prog.underlying 10).isSome = true := by kernel_rfl
theorem t11_csz : Cfg.csz ⟨Tryz.prog, own, verT, wr, md⟩ 11 = some 1 := by kernel_rfl
theorem t11_bts : Cfg.bts ⟨Tryz.prog, own, verT, wr, md⟩ 11 = some 16 := by kernel_rfl
theorem t11_ag : Cfg.isAg ⟨Tryz.prog, own, verT, wr, md⟩ 11 = some false := by kernel_rfl
theorem t11_str : Cfg.isStr ⟨Tryz.prog, own, verT, wr, md⟩ 11 = true := by kernel_rfl
theorem t11_elem : Cfg.elemT ⟨Tryz.prog, own, verT, wr, md⟩ 11 = none := by kernel_rfl
theorem t11_zok : Cfg.zerOK ⟨Tryz.prog, own, verT, wr, md⟩ 11 = true := by kernel_rfl
theorem t11_zer : Cfg.zer ⟨Tryz.prog, own, verT, wr, md⟩ 11 = some [.v (.string ByteArray.empty)] := by kernel_rfl
theorem t11_some : (Tryz.prog.underlying 11).isSome = true := by kernel_rfl
theorem t12_csz : Cfg.csz ⟨Tryz.prog, own, verT, wr, md⟩ 12 = some 1 := by kernel_rfl
theorem t12_bts : Cfg.bts ⟨Tryz.prog, own, verT, wr, md⟩ 12 = some 8 := by kernel_rfl
theorem t12_ag : Cfg.isAg ⟨Tryz.prog, own, verT, wr, md⟩ 12 = some false := by kernel_rfl
theorem t12_str : Cfg.isStr ⟨Tryz.prog, own, verT, wr, md⟩ 12 = false := by kernel_rfl
theorem t12_int : Cfg.intK ⟨Tryz.prog, own, verT, wr, md⟩ 12 = some .u64 := by kernel_rfl
theorem t12_elem : Cfg.elemT ⟨Tryz.prog, own, verT, wr, md⟩ 12 = none := by kernel_rfl
theorem t12_zok : Cfg.zerOK ⟨Tryz.prog, own, verT, wr, md⟩ 12 = true := by kernel_rfl
theorem t12_zer : Cfg.zer ⟨Tryz.prog, own, verT, wr, md⟩ 12 = some [.v (.int .u64 0)] := by kernel_rfl
theorem t12_some : (Tryz.prog.underlying 12).isSome = true := by kernel_rfl
theorem t13_csz : Cfg.csz ⟨Tryz.prog, own, verT, wr, md⟩ 13 = some 2 := by kernel_rfl
theorem t13_bts : Cfg.bts ⟨Tryz.prog, own, verT, wr, md⟩ 13 = some 24 := by kernel_rfl
theorem t13_ag : Cfg.isAg ⟨Tryz.prog, own, verT, wr, md⟩ 13 = some true := by kernel_rfl
theorem t13_str : Cfg.isStr ⟨Tryz.prog, own, verT, wr, md⟩ 13 = false := by kernel_rfl
theorem t13_elem : Cfg.elemT ⟨Tryz.prog, own, verT, wr, md⟩ 13 = none := by kernel_rfl
theorem t13_zok : Cfg.zerOK ⟨Tryz.prog, own, verT, wr, md⟩ 13 = true := by kernel_rfl
theorem t13_zer : Cfg.zer ⟨Tryz.prog, own, verT, wr, md⟩ 13 = some [.v (.string ByteArray.empty), .v (.int .u64 0)] := by kernel_rfl
theorem t13_some : (Tryz.prog.underlying 13).isSome = true := by kernel_rfl
theorem t13_flds : Cfg.flds ⟨Tryz.prog, own, verT, wr, md⟩ 13 = some [(0, 1), (1, 1)] := by kernel_rfl
theorem t13_f0 : Cfg.foff ⟨Tryz.prog, own, verT, wr, md⟩ 13 0 = some (0, 9) := by kernel_rfl
theorem t13_f1 : Cfg.foff ⟨Tryz.prog, own, verT, wr, md⟩ 13 1 = some (1, 12) := by kernel_rfl
theorem t14_csz : Cfg.csz ⟨Tryz.prog, own, verT, wr, md⟩ 14 = some 2 := by kernel_rfl
theorem t14_bts : Cfg.bts ⟨Tryz.prog, own, verT, wr, md⟩ 14 = some 24 := by kernel_rfl
theorem t14_ag : Cfg.isAg ⟨Tryz.prog, own, verT, wr, md⟩ 14 = some true := by kernel_rfl
theorem t14_str : Cfg.isStr ⟨Tryz.prog, own, verT, wr, md⟩ 14 = false := by kernel_rfl
theorem t14_elem : Cfg.elemT ⟨Tryz.prog, own, verT, wr, md⟩ 14 = none := by kernel_rfl
theorem t14_zok : Cfg.zerOK ⟨Tryz.prog, own, verT, wr, md⟩ 14 = true := by kernel_rfl
theorem t14_zer : Cfg.zer ⟨Tryz.prog, own, verT, wr, md⟩ 14 = some [.v (.string ByteArray.empty), .v (.int .u64 0)] := by kernel_rfl
theorem t14_some : (Tryz.prog.underlying 14).isSome = true := by kernel_rfl
theorem t14_flds : Cfg.flds ⟨Tryz.prog, own, verT, wr, md⟩ 14 = some [(0, 1), (1, 1)] := by kernel_rfl
theorem t14_f0 : Cfg.foff ⟨Tryz.prog, own, verT, wr, md⟩ 14 0 = some (0, 9) := by kernel_rfl
theorem t14_f1 : Cfg.foff ⟨Tryz.prog, own, verT, wr, md⟩ 14 1 = some (1, 12) := by kernel_rfl
theorem t21_csz : Cfg.csz ⟨Tryz.prog, own, verT, wr, md⟩ 21 = some 1 := by kernel_rfl
theorem t21_bts : Cfg.bts ⟨Tryz.prog, own, verT, wr, md⟩ 21 = some 4 := by kernel_rfl
theorem t21_ag : Cfg.isAg ⟨Tryz.prog, own, verT, wr, md⟩ 21 = some false := by kernel_rfl
theorem t21_str : Cfg.isStr ⟨Tryz.prog, own, verT, wr, md⟩ 21 = false := by kernel_rfl
theorem t21_int : Cfg.intK ⟨Tryz.prog, own, verT, wr, md⟩ 21 = some .i32 := by kernel_rfl
theorem t21_elem : Cfg.elemT ⟨Tryz.prog, own, verT, wr, md⟩ 21 = none := by kernel_rfl
theorem t21_zok : Cfg.zerOK ⟨Tryz.prog, own, verT, wr, md⟩ 21 = true := by kernel_rfl
theorem t21_zer : Cfg.zer ⟨Tryz.prog, own, verT, wr, md⟩ 21 = some [.v (.int .i32 0)] := by kernel_rfl
theorem t21_some : (Tryz.prog.underlying 21).isSome = true := by kernel_rfl
theorem t22_csz : Cfg.csz ⟨Tryz.prog, own, verT, wr, md⟩ 22 = some 1 := by kernel_rfl
theorem t22_bts : Cfg.bts ⟨Tryz.prog, own, verT, wr, md⟩ 22 = some 24 := by kernel_rfl
theorem t22_ag : Cfg.isAg ⟨Tryz.prog, own, verT, wr, md⟩ 22 = some false := by kernel_rfl
theorem t22_str : Cfg.isStr ⟨Tryz.prog, own, verT, wr, md⟩ 22 = false := by kernel_rfl
theorem t22_elem : Cfg.elemT ⟨Tryz.prog, own, verT, wr, md⟩ 22 = some 99 := by kernel_rfl
theorem t22_zok : Cfg.zerOK ⟨Tryz.prog, own, verT, wr, md⟩ 22 = true := by kernel_rfl
theorem t22_zer : Cfg.zer ⟨Tryz.prog, own, verT, wr, md⟩ 22 = some [.nil] := by kernel_rfl
theorem t22_some : (Tryz.prog.underlying 22).isSome = true := by kernel_rfl
theorem t23_csz : Cfg.csz ⟨Tryz.prog, own, verT, wr, md⟩ 23 = some 1 := by kernel_rfl
theorem t23_bts : Cfg.bts ⟨Tryz.prog, own, verT, wr, md⟩ 23 = some 24 := by kernel_rfl
theorem t23_ag : Cfg.isAg ⟨Tryz.prog, own, verT, wr, md⟩ 23 = some false := by kernel_rfl
theorem t23_str : Cfg.isStr ⟨Tryz.prog, own, verT, wr, md⟩ 23 = false := by kernel_rfl
theorem t23_elem : Cfg.elemT ⟨Tryz.prog, own, verT, wr, md⟩ 23 = some 102 := by kernel_rfl
theorem t23_zok : Cfg.zerOK ⟨Tryz.prog, own, verT, wr, md⟩ 23 = true := by kernel_rfl
theorem t23_zer : Cfg.zer ⟨Tryz.prog, own, verT, wr, md⟩ 23 = some [.nil] := by kernel_rfl
theorem t23_some : (Tryz.prog.underlying 23).isSome = true := by kernel_rfl
theorem t24_csz : Cfg.csz ⟨Tryz.prog, own, verT, wr, md⟩ 24 = some 1 := by kernel_rfl
theorem t24_bts : Cfg.bts ⟨Tryz.prog, own, verT, wr, md⟩ 24 = some 24 := by kernel_rfl
theorem t24_ag : Cfg.isAg ⟨Tryz.prog, own, verT, wr, md⟩ 24 = some false := by kernel_rfl
theorem t24_str : Cfg.isStr ⟨Tryz.prog, own, verT, wr, md⟩ 24 = false := by kernel_rfl
theorem t24_elem : Cfg.elemT ⟨Tryz.prog, own, verT, wr, md⟩ 24 = some 2 := by kernel_rfl
theorem t24_zok : Cfg.zerOK ⟨Tryz.prog, own, verT, wr, md⟩ 24 = true := by kernel_rfl
theorem t24_zer : Cfg.zer ⟨Tryz.prog, own, verT, wr, md⟩ 24 = some [.nil] := by kernel_rfl
theorem t24_some : (Tryz.prog.underlying 24).isSome = true := by kernel_rfl
theorem t27_csz : Cfg.csz ⟨Tryz.prog, own, verT, wr, md⟩ 27 = some 3 := by kernel_rfl
theorem t27_bts : Cfg.bts ⟨Tryz.prog, own, verT, wr, md⟩ 27 = some 40 := by kernel_rfl
theorem t27_ag : Cfg.isAg ⟨Tryz.prog, own, verT, wr, md⟩ 27 = some true := by kernel_rfl
theorem t27_str : Cfg.isStr ⟨Tryz.prog, own, verT, wr, md⟩ 27 = false := by kernel_rfl
theorem t27_elem : Cfg.elemT ⟨Tryz.prog, own, verT, wr, md⟩ 27 = none := by kernel_rfl
theorem t27_zok : Cfg.zerOK ⟨Tryz.prog, own, verT, wr, md⟩ 27 = true := by kernel_rfl
theorem t27_zer : Cfg.zer ⟨Tryz.prog, own, verT, wr, md⟩ 27 = some [.v (.int .i64 0), .v (.int .i64 0), .nil] := by kernel_rfl
theorem t27_some : (Tryz.prog.underlying 27).isSome = true := by kernel_rfl
theorem t27_flds : Cfg.flds ⟨Tryz.prog, own, verT, wr, md⟩ 27 = some [(0, 1), (1, 1), (2, 1)] := by kernel_rfl
theorem t27_f0 : Cfg.foff ⟨Tryz.prog, own, verT, wr, md⟩ 27 0 = some (0, 2) := by kernel_rfl
theorem t27_f1 : Cfg.foff ⟨Tryz.prog, own, verT, wr, md⟩ 27 1 = some (1, 2) := by kernel_rfl
theorem t27_f2 : Cfg.foff ⟨Tryz.prog, own, verT, wr, md⟩ 27 2 = some (2, 24) := by kernel_rfl
theorem t28_csz : Cfg.csz ⟨Tryz.prog, own, verT, wr, md⟩ 28 = some 3 := by kernel_rfl
theorem t28_bts : Cfg.bts ⟨Tryz.prog, own, verT, wr, md⟩ 28 = some 40 := by kernel_rfl
theorem t28_ag : Cfg.isAg ⟨Tryz.prog, own, verT, wr, md⟩ 28 = some true := by kernel_rfl
theorem t28_str : Cfg.isStr ⟨Tryz.prog, own, verT, wr, md⟩ 28 = false := by kernel_rfl
theorem t28_elem : Cfg.elemT ⟨Tryz.prog, own, verT, wr, md⟩ 28 = none := by kernel_rfl
theorem t28_zok : Cfg.zerOK ⟨Tryz.prog, own, verT, wr, md⟩ 28 = true := by kernel_rfl
theorem t28_zer : Cfg.zer ⟨Tryz.prog, own, verT, wr, md⟩ 28 = some [.v (.int .i64 0), .v (.int .i64 0), .nil] := by kernel_rfl
theorem t28_some : (Tryz.prog.underlying 28).isSome = true := by kernel_rfl
theorem t28_flds : Cfg.flds ⟨Tryz.prog, own, verT, wr, md⟩ 28 = some [(0, 1), (1, 1), (2, 1)] := by kernel_rfl
theorem t28_f0 : Cfg.foff ⟨Tryz.prog, own, verT, wr, md⟩ 28 0 = some (0, 2) := by kernel_rfl
theorem t28_f1 : Cfg.foff ⟨Tryz.prog, own, verT, wr, md⟩ 28 1 = some (1, 2) := by kernel_rfl
theorem t28_f2 : Cfg.foff ⟨Tryz.prog, own, verT, wr, md⟩ 28 2 = some (2, 24) := by kernel_rfl
theorem t30_csz : Cfg.csz ⟨Tryz.prog, own, verT, wr, md⟩ 30 = some 1 := by kernel_rfl
theorem t30_bts : Cfg.bts ⟨Tryz.prog, own, verT, wr, md⟩ 30 = some 24 := by kernel_rfl
theorem t30_ag : Cfg.isAg ⟨Tryz.prog, own, verT, wr, md⟩ 30 = some false := by kernel_rfl
theorem t30_str : Cfg.isStr ⟨Tryz.prog, own, verT, wr, md⟩ 30 = false := by kernel_rfl
theorem t30_elem : Cfg.elemT ⟨Tryz.prog, own, verT, wr, md⟩ 30 = some 67 := by kernel_rfl
theorem t30_zok : Cfg.zerOK ⟨Tryz.prog, own, verT, wr, md⟩ 30 = true := by kernel_rfl
theorem t30_zer : Cfg.zer ⟨Tryz.prog, own, verT, wr, md⟩ 30 = some [.nil] := by kernel_rfl
theorem t30_some : (Tryz.prog.underlying 30).isSome = true := by kernel_rfl
theorem t32_csz : Cfg.csz ⟨Tryz.prog, own, verT, wr, md⟩ 32 = some 1 := by kernel_rfl
theorem t32_bts : Cfg.bts ⟨Tryz.prog, own, verT, wr, md⟩ 32 = some 24 := by kernel_rfl
theorem t32_ag : Cfg.isAg ⟨Tryz.prog, own, verT, wr, md⟩ 32 = some false := by kernel_rfl
theorem t32_str : Cfg.isStr ⟨Tryz.prog, own, verT, wr, md⟩ 32 = false := by kernel_rfl
theorem t32_elem : Cfg.elemT ⟨Tryz.prog, own, verT, wr, md⟩ 32 = some 105 := by kernel_rfl
theorem t32_zok : Cfg.zerOK ⟨Tryz.prog, own, verT, wr, md⟩ 32 = true := by kernel_rfl
theorem t32_zer : Cfg.zer ⟨Tryz.prog, own, verT, wr, md⟩ 32 = some [.nil] := by kernel_rfl
theorem t32_some : (Tryz.prog.underlying 32).isSome = true := by kernel_rfl
theorem t44_csz : Cfg.csz ⟨Tryz.prog, own, verT, wr, md⟩ 44 = some 1 := by kernel_rfl
theorem t44_bts : Cfg.bts ⟨Tryz.prog, own, verT, wr, md⟩ 44 = some 24 := by kernel_rfl
theorem t44_ag : Cfg.isAg ⟨Tryz.prog, own, verT, wr, md⟩ 44 = some false := by kernel_rfl
theorem t44_str : Cfg.isStr ⟨Tryz.prog, own, verT, wr, md⟩ 44 = false := by kernel_rfl
theorem t44_elem : Cfg.elemT ⟨Tryz.prog, own, verT, wr, md⟩ 44 = some 159 := by kernel_rfl
theorem t44_zok : Cfg.zerOK ⟨Tryz.prog, own, verT, wr, md⟩ 44 = true := by kernel_rfl
theorem t44_zer : Cfg.zer ⟨Tryz.prog, own, verT, wr, md⟩ 44 = some [.nil] := by kernel_rfl
theorem t44_some : (Tryz.prog.underlying 44).isSome = true := by kernel_rfl
theorem t45_csz : Cfg.csz ⟨Tryz.prog, own, verT, wr, md⟩ 45 = some 2 := by kernel_rfl
theorem t45_bts : Cfg.bts ⟨Tryz.prog, own, verT, wr, md⟩ 45 = some 32 := by kernel_rfl
theorem t45_ag : Cfg.isAg ⟨Tryz.prog, own, verT, wr, md⟩ 45 = some true := by kernel_rfl
theorem t45_str : Cfg.isStr ⟨Tryz.prog, own, verT, wr, md⟩ 45 = false := by kernel_rfl
theorem t45_elem : Cfg.elemT ⟨Tryz.prog, own, verT, wr, md⟩ 45 = none := by kernel_rfl
theorem t45_zok : Cfg.zerOK ⟨Tryz.prog, own, verT, wr, md⟩ 45 = true := by kernel_rfl
theorem t45_zer : Cfg.zer ⟨Tryz.prog, own, verT, wr, md⟩ 45 = some [.v (.int .i64 0), .nil] := by kernel_rfl
theorem t45_some : (Tryz.prog.underlying 45).isSome = true := by kernel_rfl
theorem t45_flds : Cfg.flds ⟨Tryz.prog, own, verT, wr, md⟩ 45 = some [(0, 1), (1, 1)] := by kernel_rfl
theorem t45_f0 : Cfg.foff ⟨Tryz.prog, own, verT, wr, md⟩ 45 0 = some (0, 2) := by kernel_rfl
theorem t45_f1 : Cfg.foff ⟨Tryz.prog, own, verT, wr, md⟩ 45 1 = some (1, 44) := by kernel_rfl
theorem t46_csz : Cfg.csz ⟨Tryz.prog, own, verT, wr, md⟩ 46 = some 2 := by kernel_rfl
theorem t46_bts : Cfg.bts ⟨Tryz.prog, own, verT, wr, md⟩ 46 = some 32 := by kernel_rfl
theorem t46_ag : Cfg.isAg ⟨Tryz.prog, own, verT, wr, md⟩ 46 = some true := by kernel_rfl
theorem t46_str : Cfg.isStr ⟨Tryz.prog, own, verT, wr, md⟩ 46 = false := by kernel_rfl
theorem t46_elem : Cfg.elemT ⟨Tryz.prog, own, verT, wr, md⟩ 46 = none := by kernel_rfl
theorem t46_zok : Cfg.zerOK ⟨Tryz.prog, own, verT, wr, md⟩ 46 = true := by kernel_rfl
theorem t46_zer : Cfg.zer ⟨Tryz.prog, own, verT, wr, md⟩ 46 = some [.v (.int .i64 0), .nil] := by kernel_rfl
theorem t46_some : (Tryz.prog.underlying 46).isSome = true := by kernel_rfl
theorem t46_flds : Cfg.flds ⟨Tryz.prog, own, verT, wr, md⟩ 46 = some [(0, 1), (1, 1)] := by kernel_rfl
theorem t46_f0 : Cfg.foff ⟨Tryz.prog, own, verT, wr, md⟩ 46 0 = some (0, 2) := by kernel_rfl
theorem t46_f1 : Cfg.foff ⟨Tryz.prog, own, verT, wr, md⟩ 46 1 = some (1, 44) := by kernel_rfl
theorem t51_csz : Cfg.csz ⟨Tryz.prog, own, verT, wr, md⟩ 51 = some 3 := by kernel_rfl
theorem t51_bts : Cfg.bts ⟨Tryz.prog, own, verT, wr, md⟩ 51 = some 40 := by kernel_rfl
theorem t51_ag : Cfg.isAg ⟨Tryz.prog, own, verT, wr, md⟩ 51 = some true := by kernel_rfl
theorem t51_str : Cfg.isStr ⟨Tryz.prog, own, verT, wr, md⟩ 51 = false := by kernel_rfl
theorem t51_elem : Cfg.elemT ⟨Tryz.prog, own, verT, wr, md⟩ 51 = none := by kernel_rfl
theorem t51_zok : Cfg.zerOK ⟨Tryz.prog, own, verT, wr, md⟩ 51 = true := by kernel_rfl
theorem t51_zer : Cfg.zer ⟨Tryz.prog, own, verT, wr, md⟩ 51 = some [.v (.int .i64 0), .v (.int .i64 0), .nil] := by kernel_rfl
theorem t51_some : (Tryz.prog.underlying 51).isSome = true := by kernel_rfl
theorem t51_flds : Cfg.flds ⟨Tryz.prog, own, verT, wr, md⟩ 51 = some [(0, 1), (1, 1), (2, 1)] := by kernel_rfl
theorem t51_f0 : Cfg.foff ⟨Tryz.prog, own, verT, wr, md⟩ 51 0 = some (0, 2) := by kernel_rfl
theorem t51_f1 : Cfg.foff ⟨Tryz.prog, own, verT, wr, md⟩ 51 1 = some (1, 2) := by kernel_rfl
theorem t51_f2 : Cfg.foff ⟨Tryz.prog, own, verT, wr, md⟩ 51 2 = some (2, 24) := by kernel_rfl
theorem t52_csz : Cfg.csz ⟨Tryz.prog, own, verT, wr, md⟩ 52 = some 3 := by kernel_rfl
theorem t52_bts : Cfg.bts ⟨Tryz.prog, own, verT, wr, md⟩ 52 = some 40 := by kernel_rfl
theorem t52_ag : Cfg.isAg ⟨Tryz.prog, own, verT, wr, md⟩ 52 = some true := by kernel_rfl
theorem t52_str : Cfg.isStr ⟨Tryz.prog, own, verT, wr, md⟩ 52 = false := by kernel_rfl
theorem t52_elem : Cfg.elemT ⟨Tryz.prog, own, verT, wr, md⟩ 52 = none := by kernel_rfl
theorem t52_zok : Cfg.zerOK ⟨Tryz.prog, own, verT, wr, md⟩ 52 = true := by kernel_rfl
theorem t52_zer : Cfg.zer ⟨Tryz.prog, own, verT, wr, md⟩ 52 = some [.v (.int .i64 0), .v (.int .i64 0), .nil] := by kernel_rfl
theorem t52_some : (Tryz.prog.underlying 52).isSome = true := by kernel_rfl
theorem t52_flds : Cfg.flds ⟨Tryz.prog, own, verT, wr, md⟩ 52 = some [(0, 1), (1, 1), (2, 1)] := by kernel_rfl
theorem t52_f0 : Cfg.foff ⟨Tryz.prog, own, verT, wr, md⟩ 52 0 = some (0, 2) := by kernel_rfl
theorem t52_f1 : Cfg.foff ⟨Tryz.prog, own, verT, wr, md⟩ 52 1 = some (1, 2) := by kernel_rfl
theorem t52_f2 : Cfg.foff ⟨Tryz.prog, own, verT, wr, md⟩ 52 2 = some (2, 24) := by kernel_rfl
theorem t57_csz : Cfg.csz ⟨Tryz.prog, own, verT, wr, md⟩ 57 = some 1 := by kernel_rfl
theorem t57_bts : Cfg.bts ⟨Tryz.prog, own, verT, wr, md⟩ 57 = some 24 := by kernel_rfl
theorem t57_ag : Cfg.isAg ⟨Tryz.prog, own, verT, wr, md⟩ 57 = some false := by kernel_rfl
theorem t57_str : Cfg.isStr ⟨Tryz.prog, own, verT, wr, md⟩ 57 = false := by kernel_rfl
theorem t57_elem : Cfg.elemT ⟨Tryz.prog, own, verT, wr, md⟩ 57 = some 5 := by kernel_rfl
theorem t57_zok : Cfg.zerOK ⟨Tryz.prog, own, verT, wr, md⟩ 57 = true := by kernel_rfl
theorem t57_zer : Cfg.zer ⟨Tryz.prog, own, verT, wr, md⟩ 57 = some [.nil] := by kernel_rfl
theorem t57_some : (Tryz.prog.underlying 57).isSome = true := by kernel_rfl
theorem t59_csz : Cfg.csz ⟨Tryz.prog, own, verT, wr, md⟩ 59 = some 1 := by kernel_rfl
theorem t59_bts : Cfg.bts ⟨Tryz.prog, own, verT, wr, md⟩ 59 = some 24 := by kernel_rfl
theorem t59_ag : Cfg.isAg ⟨Tryz.prog, own, verT, wr, md⟩ 59 = some false := by kernel_rfl
theorem t59_str : Cfg.isStr ⟨Tryz.prog, own, verT, wr, md⟩ 59 = false := by kernel_rfl
theorem t59_elem : Cfg.elemT ⟨Tryz.prog, own, verT, wr, md⟩ 59 = some 9 := by kernel_rfl
theorem t59_zok : Cfg.zerOK ⟨Tryz.prog, own, verT, wr, md⟩ 59 = true := by kernel_rfl
theorem t59_zer : Cfg.zer ⟨Tryz.prog, own, verT, wr, md⟩ 59 = some [.nil] := by kernel_rfl
theorem t59_some : (Tryz.prog.underlying 59).isSome = true := by kernel_rfl
theorem t63_csz : Cfg.csz ⟨Tryz.prog, own, verT, wr, md⟩ 63 = some 3 := by kernel_rfl
theorem t63_bts : Cfg.bts ⟨Tryz.prog, own, verT, wr, md⟩ 63 = some 24 := by kernel_rfl
theorem t63_ag : Cfg.isAg ⟨Tryz.prog, own, verT, wr, md⟩ 63 = some true := by kernel_rfl
theorem t63_str : Cfg.isStr ⟨Tryz.prog, own, verT, wr, md⟩ 63 = false := by kernel_rfl
theorem t63_elem : Cfg.elemT ⟨Tryz.prog, own, verT, wr, md⟩ 63 = none := by kernel_rfl
theorem t63_zok : Cfg.zerOK ⟨Tryz.prog, own, verT, wr, md⟩ 63 = true := by kernel_rfl
theorem t63_zer : Cfg.zer ⟨Tryz.prog, own, verT, wr, md⟩ 63 = some [.v (.int .i64 0), .v (.int .i64 0), .v (.int .i64 0)] := by kernel_rfl
theorem t63_some : (Tryz.prog.underlying 63).isSome = true := by kernel_rfl
theorem t63_flds : Cfg.flds ⟨Tryz.prog, own, verT, wr, md⟩ 63 = some [(0, 1), (1, 1), (2, 1)] := by kernel_rfl
theorem t63_f0 : Cfg.foff ⟨Tryz.prog, own, verT, wr, md⟩ 63 0 = some (0, 2) := by kernel_rfl
theorem t63_f1 : Cfg.foff ⟨Tryz.prog, own, verT, wr, md⟩ 63 1 = some (1, 2) := by kernel_rfl
theorem t63_f2 : Cfg.foff ⟨Tryz.prog, own, verT, wr, md⟩ 63 2 = some (2, 2) := by kernel_rfl
theorem t64_csz : Cfg.csz ⟨Tryz.prog, own, verT, wr, md⟩ 64 = some 3 := by kernel_rfl
theorem t64_bts : Cfg.bts ⟨Tryz.prog, own, verT, wr, md⟩ 64 = some 24 := by kernel_rfl
theorem t64_ag : Cfg.isAg ⟨Tryz.prog, own, verT, wr, md⟩ 64 = some true := by kernel_rfl
theorem t64_str : Cfg.isStr ⟨Tryz.prog, own, verT, wr, md⟩ 64 = false := by kernel_rfl
theorem t64_elem : Cfg.elemT ⟨Tryz.prog, own, verT, wr, md⟩ 64 = none := by kernel_rfl
theorem t64_zok : Cfg.zerOK ⟨Tryz.prog, own, verT, wr, md⟩ 64 = true := by kernel_rfl
theorem t64_zer : Cfg.zer ⟨Tryz.prog, own, verT, wr, md⟩ 64 = some [.v (.int .i64 0), .v (.int .i64 0), .v (.int .i64 0)] := by kernel_rfl
theorem t64_some : (Tryz.prog.underlying 64).isSome = true := by kernel_rfl
theorem t64_flds : Cfg.flds ⟨Tryz.prog, own, verT, wr, md⟩ 64 = some [(0, 1), (1, 1), (2, 1)] := by kernel_rfl
theorem t64_f0 : Cfg.foff ⟨Tryz.prog, own, verT, wr, md⟩ 64 0 = some (0, 2) := by kernel_rfl
theorem t64_f1 : Cfg.foff ⟨Tryz.prog, own, verT, wr, md⟩ 64 1 = some (1, 2) := by kernel_rfl
theorem t64_f2 : Cfg.foff ⟨Tryz.prog, own, verT, wr, md⟩ 64 2 = some (2, 2) := by kernel_rfl
theorem t65_csz : Cfg.csz ⟨Tryz.prog, own, verT, wr, md⟩ 65 = some 1 := by kernel_rfl
theorem t65_bts : Cfg.bts ⟨Tryz.prog, own, verT, wr, md⟩ 65 = some 24 := by kernel_rfl
theorem t65_ag : Cfg.isAg ⟨Tryz.prog, own, verT, wr, md⟩ 65 = some false := by kernel_rfl
theorem t65_str : Cfg.isStr ⟨Tryz.prog, own, verT, wr, md⟩ 65 = false := by kernel_rfl
theorem t65_elem : Cfg.elemT ⟨Tryz.prog, own, verT, wr, md⟩ 65 = some 32 := by kernel_rfl
theorem t65_zok : Cfg.zerOK ⟨Tryz.prog, own, verT, wr, md⟩ 65 = true := by kernel_rfl
theorem t65_zer : Cfg.zer ⟨Tryz.prog, own, verT, wr, md⟩ 65 = some [.nil] := by kernel_rfl
theorem t65_some : (Tryz.prog.underlying 65).isSome = true := by kernel_rfl
theorem t66_csz : Cfg.csz ⟨Tryz.prog, own, verT, wr, md⟩ 66 = some 8 := by kernel_rfl
theorem t66_bts : Cfg.bts ⟨Tryz.prog, own, verT, wr, md⟩ 66 = some 120 := by kernel_rfl
theorem t66_ag : Cfg.isAg ⟨Tryz.prog, own, verT, wr, md⟩ 66 = some true := by kernel_rfl
theorem t66_str : Cfg.isStr ⟨Tryz.prog, own, verT, wr, md⟩ 66 = false := by kernel_rfl
theorem t66_elem : Cfg.elemT ⟨Tryz.prog, own, verT, wr, md⟩ 66 = none := by kernel_rfl
theorem t66_zok : Cfg.zerOK ⟨Tryz.prog, own, verT, wr, md⟩ 66 = true := by kernel_rfl
theorem t66_zer : Cfg.zer ⟨Tryz.prog, own, verT, wr, md⟩ 66 = some [.v (.string ByteArray.empty), .v (.int .i64 0), .v (.int .i64 0), .v (.int .i64 0), .v (.int .i64 0), .nil, .nil, .nil] := by kernel_rfl
theorem t66_some : (Tryz.prog.underlying 66).isSome = true := by kernel_rfl
theorem t66_flds : Cfg.flds ⟨Tryz.prog, own, verT, wr, md⟩ 66 = some [(0, 1), (1, 3), (4, 1), (5, 1), (6, 1), (7, 1)] := by kernel_rfl
theorem t66_f0 : Cfg.foff ⟨Tryz.prog, own, verT, wr, md⟩ 66 0 = some (0, 9) := by kernel_rfl
theorem t66_f1 : Cfg.foff ⟨Tryz.prog, own, verT, wr, md⟩ 66 1 = some (1, 64) := by kernel_rfl
theorem t66_f2 : Cfg.foff ⟨Tryz.prog, own, verT, wr, md⟩ 66 2 = some (4, 2) := by kernel_rfl
theorem t66_f3 : Cfg.foff ⟨Tryz.prog, own, verT, wr, md⟩ 66 3 = some (5, 59) := by kernel_rfl
theorem t66_f4 : Cfg.foff ⟨Tryz.prog, own, verT, wr, md⟩ 66 4 = some (6, 65) := by kernel_rfl
theorem t66_f5 : Cfg.foff ⟨Tryz.prog, own, verT, wr, md⟩ 66 5 = some (7, 32) := by kernel_rfl
theorem t67_csz : Cfg.csz ⟨Tryz.prog, own, verT, wr, md⟩ 67 = some 8 := by kernel_rfl
theorem t67_bts : Cfg.bts ⟨Tryz.prog, own, verT, wr, md⟩ 67 = some 120 := by kernel_rfl
theorem t67_ag : Cfg.isAg ⟨Tryz.prog, own, verT, wr, md⟩ 67 = some true := by kernel_rfl
theorem t67_str : Cfg.isStr ⟨Tryz.prog, own, verT, wr, md⟩ 67 = false := by kernel_rfl
theorem t67_elem : Cfg.elemT ⟨Tryz.prog, own, verT, wr, md⟩ 67 = none := by kernel_rfl
theorem t67_zok : Cfg.zerOK ⟨Tryz.prog, own, verT, wr, md⟩ 67 = true := by kernel_rfl
theorem t67_zer : Cfg.zer ⟨Tryz.prog, own, verT, wr, md⟩ 67 = some [.v (.string ByteArray.empty), .v (.int .i64 0), .v (.int .i64 0), .v (.int .i64 0), .v (.int .i64 0), .nil, .nil, .nil] := by kernel_rfl
theorem t67_some : (Tryz.prog.underlying 67).isSome = true := by kernel_rfl
theorem t67_flds : Cfg.flds ⟨Tryz.prog, own, verT, wr, md⟩ 67 = some [(0, 1), (1, 3), (4, 1), (5, 1), (6, 1), (7, 1)] := by kernel_rfl
theorem t67_f0 : Cfg.foff ⟨Tryz.prog, own, verT, wr, md⟩ 67 0 = some (0, 9) := by kernel_rfl
theorem t67_f1 : Cfg.foff ⟨Tryz.prog, own, verT, wr, md⟩ 67 1 = some (1, 64) := by kernel_rfl
theorem t67_f2 : Cfg.foff ⟨Tryz.prog, own, verT, wr, md⟩ 67 2 = some (4, 2) := by kernel_rfl
theorem t67_f3 : Cfg.foff ⟨Tryz.prog, own, verT, wr, md⟩ 67 3 = some (5, 59) := by kernel_rfl
theorem t67_f4 : Cfg.foff ⟨Tryz.prog, own, verT, wr, md⟩ 67 4 = some (6, 65) := by kernel_rfl
theorem t67_f5 : Cfg.foff ⟨Tryz.prog, own, verT, wr, md⟩ 67 5 = some (7, 32) := by kernel_rfl
theorem t74_csz : Cfg.csz ⟨Tryz.prog, own, verT, wr, md⟩ 74 = some 2 := by kernel_rfl
theorem t74_bts : Cfg.bts ⟨Tryz.prog, own, verT, wr, md⟩ 74 = some 32 := by kernel_rfl
theorem t74_ag : Cfg.isAg ⟨Tryz.prog, own, verT, wr, md⟩ 74 = some true := by kernel_rfl
theorem t74_str : Cfg.isStr ⟨Tryz.prog, own, verT, wr, md⟩ 74 = false := by kernel_rfl
theorem t74_elem : Cfg.elemT ⟨Tryz.prog, own, verT, wr, md⟩ 74 = none := by kernel_rfl
theorem t74_zok : Cfg.zerOK ⟨Tryz.prog, own, verT, wr, md⟩ 74 = true := by kernel_rfl
theorem t74_zer : Cfg.zer ⟨Tryz.prog, own, verT, wr, md⟩ 74 = some [.v (.int .i64 0), .nil] := by kernel_rfl
theorem t74_some : (Tryz.prog.underlying 74).isSome = true := by kernel_rfl
theorem t74_flds : Cfg.flds ⟨Tryz.prog, own, verT, wr, md⟩ 74 = some [(0, 1), (1, 1)] := by kernel_rfl
theorem t74_f0 : Cfg.foff ⟨Tryz.prog, own, verT, wr, md⟩ 74 0 = some (0, 2) := by kernel_rfl
theorem t74_f1 : Cfg.foff ⟨Tryz.prog, own, verT, wr, md⟩ 74 1 = some (1, 59) := by kernel_rfl
theorem t75_csz : Cfg.csz ⟨Tryz.prog, own, verT, wr, md⟩ 75 = some 2 := by kernel_rfl
theorem t75_bts : Cfg.bts ⟨Tryz.prog, own, verT, wr, md⟩ 75 = some 32 := by kernel_rfl
theorem t75_ag : Cfg.isAg ⟨Tryz.prog, own, verT, wr, md⟩ 75 = some true := by kernel_rfl
theorem t75_str : Cfg.isStr ⟨Tryz.prog, own, verT, wr, md⟩ 75 = false := by kernel_rfl
theorem t75_elem : Cfg.elemT ⟨Tryz.prog, own, verT, wr, md⟩ 75 = none := by kernel_rfl
theorem t75_zok : Cfg.zerOK ⟨Tryz.prog, own, verT, wr, md⟩ 75 = true := by kernel_rfl
theorem t75_zer : Cfg.zer ⟨Tryz.prog, own, verT, wr, md⟩ 75 = some [.v (.int .i64 0), .nil] := by kernel_rfl
theorem t75_some : (Tryz.prog.underlying 75).isSome = true := by kernel_rfl
theorem t75_flds : Cfg.flds ⟨Tryz.prog, own, verT, wr, md⟩ 75 = some [(0, 1), (1, 1)] := by kernel_rfl
theorem t75_f0 : Cfg.foff ⟨Tryz.prog, own, verT, wr, md⟩ 75 0 = some (0, 2) := by kernel_rfl
theorem t75_f1 : Cfg.foff ⟨Tryz.prog, own, verT, wr, md⟩ 75 1 = some (1, 59) := by kernel_rfl
theorem t89_csz : Cfg.csz ⟨Tryz.prog, own, verT, wr, md⟩ 89 = some 1 := by kernel_rfl
theorem t89_bts : Cfg.bts ⟨Tryz.prog, own, verT, wr, md⟩ 89 = some 24 := by kernel_rfl
theorem t89_ag : Cfg.isAg ⟨Tryz.prog, own, verT, wr, md⟩ 89 = some false := by kernel_rfl
theorem t89_str : Cfg.isStr ⟨Tryz.prog, own, verT, wr, md⟩ 89 = false := by kernel_rfl
theorem t89_elem : Cfg.elemT ⟨Tryz.prog, own, verT, wr, md⟩ 89 = some 59 := by kernel_rfl
theorem t89_zok : Cfg.zerOK ⟨Tryz.prog, own, verT, wr, md⟩ 89 = true := by kernel_rfl
theorem t89_zer : Cfg.zer ⟨Tryz.prog, own, verT, wr, md⟩ 89 = some [.nil] := by kernel_rfl
theorem t89_some : (Tryz.prog.underlying 89).isSome = true := by kernel_rfl
theorem t90_csz : Cfg.csz ⟨Tryz.prog, own, verT, wr, md⟩ 90 = some 2 := by kernel_rfl
theorem t90_bts : Cfg.bts ⟨Tryz.prog, own, verT, wr, md⟩ 90 = some 32 := by kernel_rfl
theorem t90_ag : Cfg.isAg ⟨Tryz.prog, own, verT, wr, md⟩ 90 = some true := by kernel_rfl
theorem t90_str : Cfg.isStr ⟨Tryz.prog, own, verT, wr, md⟩ 90 = false := by kernel_rfl
theorem t90_elem : Cfg.elemT ⟨Tryz.prog, own, verT, wr, md⟩ 90 = none := by kernel_rfl
theorem t90_zok : Cfg.zerOK ⟨Tryz.prog, own, verT, wr, md⟩ 90 = true := by kernel_rfl
theorem t90_zer : Cfg.zer ⟨Tryz.prog, own, verT, wr, md⟩ 90 = some [.v (.int .i64 0), .nil] := by kernel_rfl
theorem t90_some : (Tryz.prog.underlying 90).isSome = true := by kernel_rfl
theorem t90_flds : Cfg.flds ⟨Tryz.prog, own, verT, wr, md⟩ 90 = some [(0, 1), (1, 1)] := by kernel_rfl
theorem t90_f0 : Cfg.foff ⟨Tryz.prog, own, verT, wr, md⟩ 90 0 = some (0, 2) := by kernel_rfl
theorem t90_f1 : Cfg.foff ⟨Tryz.prog, own, verT, wr, md⟩ 90 1 = some (1, 89) := by kernel_rfl
theorem t91_csz : Cfg.csz ⟨Tryz.prog, own, verT, wr, md⟩ 91 = some 2 := by kernel_rfl
theorem t91_bts : Cfg.bts ⟨Tryz.prog, own, verT, wr, md⟩ 91 = some 32 := by kernel_rfl
theorem t91_ag : Cfg.isAg ⟨Tryz.prog, own, verT, wr, md⟩ 91 = some true := by kernel_rfl
theorem t91_str : Cfg.isStr ⟨Tryz.prog, own, verT, wr, md⟩ 91 = false := by kernel_rfl
theorem t91_elem : Cfg.elemT ⟨Tryz.prog, own, verT, wr, md⟩ 91 = none := by kernel_rfl
theorem t91_zok : Cfg.zerOK ⟨Tryz.prog, own, verT, wr, md⟩ 91 = true := by kernel_rfl
theorem t91_zer : Cfg.zer ⟨Tryz.prog, own, verT, wr, md⟩ 91 = some [.v (.int .i64 0), .nil] := by kernel_rfl
theorem t91_some : (Tryz.prog.underlying 91).isSome = true := by kernel_rfl
theorem t91_flds : Cfg.flds ⟨Tryz.prog, own, verT, wr, md⟩ 91 = some [(0, 1), (1, 1)] := by kernel_rfl
theorem t91_f0 : Cfg.foff ⟨Tryz.prog, own, verT, wr, md⟩ 91 0 = some (0, 2) := by kernel_rfl
theorem t91_f1 : Cfg.foff ⟨Tryz.prog, own, verT, wr, md⟩ 91 1 = some (1, 89) := by kernel_rfl
theorem t96_csz : Cfg.csz ⟨Tryz.prog, own, verT, wr, md⟩ 96 = some 3 := by kernel_rfl
theorem t96_bts : Cfg.bts ⟨Tryz.prog, own, verT, wr, md⟩ 96 = some 24 := by kernel_rfl
theorem t96_ag : Cfg.isAg ⟨Tryz.prog, own, verT, wr, md⟩ 96 = some true := by kernel_rfl
theorem t96_str : Cfg.isStr ⟨Tryz.prog, own, verT, wr, md⟩ 96 = false := by kernel_rfl
theorem t96_elem : Cfg.elemT ⟨Tryz.prog, own, verT, wr, md⟩ 96 = none := by kernel_rfl
theorem t96_zok : Cfg.zerOK ⟨Tryz.prog, own, verT, wr, md⟩ 96 = true := by kernel_rfl
theorem t96_zer : Cfg.zer ⟨Tryz.prog, own, verT, wr, md⟩ 96 = some [.v (.int .i64 0), .v (.int .i64 0), .v (.int .i64 0)] := by kernel_rfl
theorem t96_some : (Tryz.prog.underlying 96).isSome = true := by kernel_rfl
theorem t96_flds : Cfg.flds ⟨Tryz.prog, own, verT, wr, md⟩ 96 = some [(0, 1), (1, 1), (2, 1)] := by kernel_rfl
theorem t96_f0 : Cfg.foff ⟨Tryz.prog, own, verT, wr, md⟩ 96 0 = some (0, 2) := by kernel_rfl
theorem t96_f1 : Cfg.foff ⟨Tryz.prog, own, verT, wr, md⟩ 96 1 = some (1, 2) := by kernel_rfl
theorem t96_f2 : Cfg.foff ⟨Tryz.prog, own, verT, wr, md⟩ 96 2 = some (2, 2) := by kernel_rfl
theorem t97_csz : Cfg.csz ⟨Tryz.prog, own, verT, wr, md⟩ 97 = some 1 := by kernel_rfl
theorem t97_bts : Cfg.bts ⟨Tryz.prog, own, verT, wr, md⟩ 97 = some 24 := by kernel_rfl
theorem t97_ag : Cfg.isAg ⟨Tryz.prog, own, verT, wr, md⟩ 97 = some false := by kernel_rfl
theorem t97_str : Cfg.isStr ⟨Tryz.prog, own, verT, wr, md⟩ 97 = false := by kernel_rfl
theorem t97_elem : Cfg.elemT ⟨Tryz.prog, own, verT, wr, md⟩ 97 = some 23 := by kernel_rfl
theorem t97_zok : Cfg.zerOK ⟨Tryz.prog, own, verT, wr, md⟩ 97 = true := by kernel_rfl
theorem t97_zer : Cfg.zer ⟨Tryz.prog, own, verT, wr, md⟩ 97 = some [.nil] := by kernel_rfl
theorem t97_some : (Tryz.prog.underlying 97).isSome = true := by kernel_rfl
theorem t98_csz : Cfg.csz ⟨Tryz.prog, own, verT, wr, md⟩ 98 = some 8 := by kernel_rfl
theorem t98_bts : Cfg.bts ⟨Tryz.prog, own, verT, wr, md⟩ 98 = some 120 := by kernel_rfl
theorem t98_ag : Cfg.isAg ⟨Tryz.prog, own, verT, wr, md⟩ 98 = some true := by kernel_rfl
theorem t98_str : Cfg.isStr ⟨Tryz.prog, own, verT, wr, md⟩ 98 = false := by kernel_rfl
theorem t98_elem : Cfg.elemT ⟨Tryz.prog, own, verT, wr, md⟩ 98 = none := by kernel_rfl
theorem t98_zok : Cfg.zerOK ⟨Tryz.prog, own, verT, wr, md⟩ 98 = true := by kernel_rfl
theorem t98_zer : Cfg.zer ⟨Tryz.prog, own, verT, wr, md⟩ 98 = some [.v (.string ByteArray.empty), .v (.int .i64 0), .v (.int .i64 0), .v (.int .i64 0), .v (.int .i64 0), .nil, .nil, .nil] := by kernel_rfl
theorem t98_some : (Tryz.prog.underlying 98).isSome = true := by kernel_rfl
theorem t98_flds : Cfg.flds ⟨Tryz.prog, own, verT, wr, md⟩ 98 = some [(0, 1), (1, 3), (4, 1), (5, 1), (6, 1), (7, 1)] := by kernel_rfl
theorem t98_f0 : Cfg.foff ⟨Tryz.prog, own, verT, wr, md⟩ 98 0 = some (0, 9) := by kernel_rfl
theorem t98_f1 : Cfg.foff ⟨Tryz.prog, own, verT, wr, md⟩ 98 1 = some (1, 96) := by kernel_rfl
theorem t98_f2 : Cfg.foff ⟨Tryz.prog, own, verT, wr, md⟩ 98 2 = some (4, 2) := by kernel_rfl
theorem t98_f3 : Cfg.foff ⟨Tryz.prog, own, verT, wr, md⟩ 98 3 = some (5, 59) := by kernel_rfl
theorem t98_f4 : Cfg.foff ⟨Tryz.prog, own, verT, wr, md⟩ 98 4 = some (6, 97) := by kernel_rfl
theorem t98_f5 : Cfg.foff ⟨Tryz.prog, own, verT, wr, md⟩ 98 5 = some (7, 23) := by kernel_rfl
theorem t99_csz : Cfg.csz ⟨Tryz.prog, own, verT, wr, md⟩ 99 = some 8 := by kernel_rfl
theorem t99_bts : Cfg.bts ⟨Tryz.prog, own, verT, wr, md⟩ 99 = some 120 := by kernel_rfl
theorem t99_ag : Cfg.isAg ⟨Tryz.prog, own, verT, wr, md⟩ 99 = some true := by kernel_rfl
theorem t99_str : Cfg.isStr ⟨Tryz.prog, own, verT, wr, md⟩ 99 = false := by kernel_rfl
theorem t99_elem : Cfg.elemT ⟨Tryz.prog, own, verT, wr, md⟩ 99 = none := by kernel_rfl
theorem t99_zok : Cfg.zerOK ⟨Tryz.prog, own, verT, wr, md⟩ 99 = true := by kernel_rfl
theorem t99_zer : Cfg.zer ⟨Tryz.prog, own, verT, wr, md⟩ 99 = some [.v (.string ByteArray.empty), .v (.int .i64 0), .v (.int .i64 0), .v (.int .i64 0), .v (.int .i64 0), .nil, .nil, .nil] := by kernel_rfl
theorem t99_some : (Tryz.prog.underlying 99).isSome = true := by kernel_rfl
theorem t99_flds : Cfg.flds ⟨Tryz.prog, own, verT, wr, md⟩ 99 = some [(0, 1), (1, 3), (4, 1), (5, 1), (6, 1), (7, 1)] := by kernel_rfl
theorem t99_f0 : Cfg.foff ⟨Tryz.prog, own, verT, wr, md⟩ 99 0 = some (0, 9) := by kernel_rfl
theorem t99_f1 : Cfg.foff ⟨Tryz.prog, own, verT, wr, md⟩ 99 1 = some (1, 96) := by kernel_rfl
theorem t99_f2 : Cfg.foff ⟨Tryz.prog, own, verT, wr, md⟩ 99 2 = some (4, 2) := by kernel_rfl
theorem t99_f3 : Cfg.foff ⟨Tryz.prog, own, verT, wr, md⟩ 99 3 = some (5, 59) := by kernel_rfl
theorem t99_f4 : Cfg.foff ⟨Tryz.prog, own, verT, wr, md⟩ 99 4 = some (6, 97) := by kernel_rfl
theorem t99_f5 : Cfg.foff ⟨Tryz.prog, own, verT, wr, md⟩ 99 5 = some (7, 23) := by kernel_rfl
theorem t101_csz : Cfg.csz ⟨Tryz.prog, own, verT, wr, md⟩ 101 = some 7 := by kernel_rfl
theorem t101_bts : Cfg.bts ⟨Tryz.prog, own, verT, wr, md⟩ 101 = some 64 := by kernel_rfl
theorem t101_ag : Cfg.isAg ⟨Tryz.prog, own, verT, wr, md⟩ 101 = some true := by kernel_rfl
theorem t101_str : Cfg.isStr ⟨Tryz.prog, own, verT, wr, md⟩ 101 = false := by kernel_rfl
theorem t101_elem : Cfg.elemT ⟨Tryz.prog, own, verT, wr, md⟩ 101 = none := by kernel_rfl
theorem t101_zok : Cfg.zerOK ⟨Tryz.prog, own, verT, wr, md⟩ 101 = true := by kernel_rfl
theorem t101_zer : Cfg.zer ⟨Tryz.prog, own, verT, wr, md⟩ 101 = some [.v (.string ByteArray.empty), .v (.int .i64 0), .v (.int .i64 0), .v (.int .i64 0), .v (.int .i64 0), .v (.int .i64 0), .v (.int .i64 0)] := by kernel_rfl
theorem t101_some : (Tryz.prog.underlying 101).isSome = true := by kernel_rfl
theorem t101_flds : Cfg.flds ⟨Tryz.prog, own, verT, wr, md⟩ 101 = some [(0, 1), (1, 3), (4, 3)] := by kernel_rfl
theorem t101_f0 : Cfg.foff ⟨Tryz.prog, own, verT, wr, md⟩ 101 0 = some (0, 9) := by kernel_rfl
theorem t101_f1 : Cfg.foff ⟨Tryz.prog, own, verT, wr, md⟩ 101 1 = some (1, 96) := by kernel_rfl
theorem t101_f2 : Cfg.foff ⟨Tryz.prog, own, verT, wr, md⟩ 101 2 = some (4, 96) := by kernel_rfl
theorem t102_csz : Cfg.csz ⟨Tryz.prog, own, verT, wr, md⟩ 102 = some 7 := by kernel_rfl
theorem t102_bts : Cfg.bts ⟨Tryz.prog, own, verT, wr, md⟩ 102 = some 64 := by kernel_rfl
theorem t102_ag : Cfg.isAg ⟨Tryz.prog, own, verT, wr, md⟩ 102 = some true := by kernel_rfl
theorem t102_str : Cfg.isStr ⟨Tryz.prog, own, verT, wr, md⟩ 102 = false := by kernel_rfl
theorem t102_elem : Cfg.elemT ⟨Tryz.prog, own, verT, wr, md⟩ 102 = none := by kernel_rfl
theorem t102_zok : Cfg.zerOK ⟨Tryz.prog, own, verT, wr, md⟩ 102 = true := by kernel_rfl
theorem t102_zer : Cfg.zer ⟨Tryz.prog, own, verT, wr, md⟩ 102 = some [.v (.string ByteArray.empty), .v (.int .i64 0), .v (.int .i64 0), .v (.int .i64 0), .v (.int .i64 0), .v (.int .i64 0), .v (.int .i64 0)] := by kernel_rfl
theorem t102_some : (Tryz.prog.underlying 102).isSome = true := by kernel_rfl
theorem t102_flds : Cfg.flds ⟨Tryz.prog, own, verT, wr, md⟩ 102 = some [(0, 1), (1, 3), (4, 3)] := by kernel_rfl
theorem t102_f0 : Cfg.foff ⟨Tryz.prog, own, verT, wr, md⟩ 102 0 = some (0, 9) := by kernel_rfl
theorem t102_f1 : Cfg.foff ⟨Tryz.prog, own, verT, wr, md⟩ 102 1 = some (1, 96) := by kernel_rfl
theorem t102_f2 : Cfg.foff ⟨Tryz.prog, own, verT, wr, md⟩ 102 2 = some (4, 96) := by kernel_rfl
theorem t104_csz : Cfg.csz ⟨Tryz.prog, own, verT, wr, md⟩ 104 = some 7 := by kernel_rfl
theorem t104_bts : Cfg.bts ⟨Tryz.prog, own, verT, wr, md⟩ 104 = some 64 := by kernel_rfl
theorem t104_ag : Cfg.isAg ⟨Tryz.prog, own, verT, wr, md⟩ 104 = some true := by kernel_rfl
theorem t104_str : Cfg.isStr ⟨Tryz.prog, own, verT, wr, md⟩ 104 = false := by kernel_rfl
theorem t104_elem : Cfg.elemT ⟨Tryz.prog, own, verT, wr, md⟩ 104 = none := by kernel_rfl
theorem t104_zok : Cfg.zerOK ⟨Tryz.prog, own, verT, wr, md⟩ 104 = true := by kernel_rfl
theorem t104_zer : Cfg.zer ⟨Tryz.prog, own, verT, wr, md⟩ 104 = some [.v (.string ByteArray.empty), .v (.int .i64 0), .v (.int .i64 0), .v (.int .i64 0), .v (.int .i64 0), .v (.int .i64 0), .v (.int .i64 0)] := by kernel_rfl
theorem t104_some : (Tryz.prog.underlying 104).isSome = true := by kernel_rfl
theorem t104_flds : Cfg.flds ⟨Tryz.prog, own, verT, wr, md⟩ 104 = some [(0, 1), (1, 3), (4, 3)] := by kernel_rfl
theorem t104_f0 : Cfg.foff ⟨Tryz.prog, own, verT, wr, md⟩ 104 0 = some (0, 9) := by kernel_rfl
theorem t104_f1 : Cfg.foff ⟨Tryz.prog, own, verT, wr, md⟩ 104 1 = some (1, 64) := by kernel_rfl
theorem t104_f2 : Cfg.foff ⟨Tryz.prog, own, verT, wr, md⟩ 104 2 = some (4, 64) := by kernel_rfl
theorem t105_csz : Cfg.csz ⟨Tryz.prog, own, verT, wr, md⟩ 105 = some 7 := by kernel_rfl
theorem t105_bts : Cfg.bts ⟨Tryz.prog, own, verT, wr, md⟩ 105 = some 64 := by kernel_rfl
theorem t105_ag : Cfg.isAg ⟨Tryz.prog, own, verT, wr, md⟩ 105 = some true := by kernel_rfl
theorem t105_str : Cfg.isStr ⟨Tryz.prog, own, verT, wr, md⟩ 105 = false := by kernel_rfl
theorem t105_elem : Cfg.elemT ⟨Tryz.prog, own, verT, wr, md⟩ 105 = none := by kernel_rfl
theorem t105_zok : Cfg.zerOK ⟨Tryz.prog, own, verT, wr, md⟩ 105 = true := by kernel_rfl
theorem t105_zer : Cfg.zer ⟨Tryz.prog, own, verT, wr, md⟩ 105 = some [.v (.string ByteArray.empty), .v (.int .i64 0), .v (.int .i64 0), .v (.int .i64 0), .v (.int .i64 0), .v (.int .i64 0), .v (.int .i64 0)] := by kernel_rfl
theorem t105_some : (Tryz.prog.underlying 105).isSome = true := by kernel_rfl
theorem t105_flds : Cfg.flds ⟨Tryz.prog, own, verT, wr, md⟩ 105 = some [(0, 1), (1, 3), (4, 3)] := by kernel_rfl
theorem t105_f0 : Cfg.foff ⟨Tryz.prog, own, verT, wr, md⟩ 105 0 = some (0, 9) := by kernel_rfl
theorem t105_f1 : Cfg.foff ⟨Tryz.prog, own, verT, wr, md⟩ 105 1 = some (1, 64) := by kernel_rfl
theorem t105_f2 : Cfg.foff ⟨Tryz.prog, own, verT, wr, md⟩ 105 2 = some (4, 64) := by kernel_rfl
theorem t107_csz : Cfg.csz ⟨Tryz.prog, own, verT, wr, md⟩ 107 = some 1 := by kernel_rfl
theorem t107_bts : Cfg.bts ⟨Tryz.prog, own, verT, wr, md⟩ 107 = some 24 := by kernel_rfl
theorem t107_ag : Cfg.isAg ⟨Tryz.prog, own, verT, wr, md⟩ 107 = some false := by kernel_rfl
theorem t107_str : Cfg.isStr ⟨Tryz.prog, own, verT, wr, md⟩ 107 = false := by kernel_rfl
theorem t107_elem : Cfg.elemT ⟨Tryz.prog, own, verT, wr, md⟩ 107 = some 3 := by kernel_rfl
theorem t107_zok : Cfg.zerOK ⟨Tryz.prog, own, verT, wr, md⟩ 107 = true := by kernel_rfl
theorem t107_zer : Cfg.zer ⟨Tryz.prog, own, verT, wr, md⟩ 107 = some [.nil] := by kernel_rfl
theorem t107_some : (Tryz.prog.underlying 107).isSome = true := by kernel_rfl
theorem t140_csz : Cfg.csz ⟨Tryz.prog, own, verT, wr, md⟩ 140 = some 1 := by kernel_rfl
theorem t140_bts : Cfg.bts ⟨Tryz.prog, own, verT, wr, md⟩ 140 = some 24 := by kernel_rfl
theorem t140_ag : Cfg.isAg ⟨Tryz.prog, own, verT, wr, md⟩ 140 = some false := by kernel_rfl
theorem t140_str : Cfg.isStr ⟨Tryz.prog, own, verT, wr, md⟩ 140 = false := by kernel_rfl
theorem t140_elem : Cfg.elemT ⟨Tryz.prog, own, verT, wr, md⟩ 140 = some 144 := by kernel_rfl
theorem t140_zok : Cfg.zerOK ⟨Tryz.prog, own, verT, wr, md⟩ 140 = true := by kernel_rfl
theorem t140_zer : Cfg.zer ⟨Tryz.prog, own, verT, wr, md⟩ 140 = some [.nil] := by kernel_rfl
theorem t140_some : (Tryz.prog.underlying 140).isSome = true := by kernel_rfl
theorem t143_csz : Cfg.csz ⟨Tryz.prog, own, verT, wr, md⟩ 143 = some 2 := by kernel_rfl
theorem t143_bts : Cfg.bts ⟨Tryz.prog, own, verT, wr, md⟩ 143 = some 32 := by kernel_rfl
theorem t143_ag : Cfg.isAg ⟨Tryz.prog, own, verT, wr, md⟩ 143 = some true := by kernel_rfl
theorem t143_str : Cfg.isStr ⟨Tryz.prog, own, verT, wr, md⟩ 143 = false := by kernel_rfl
theorem t143_elem : Cfg.elemT ⟨Tryz.prog, own, verT, wr, md⟩ 143 = none := by kernel_rfl
theorem t143_zok : Cfg.zerOK ⟨Tryz.prog, own, verT, wr, md⟩ 143 = true := by kernel_rfl
theorem t143_zer : Cfg.zer ⟨Tryz.prog, own, verT, wr, md⟩ 143 = some [.v (.int .i64 0), .nil] := by kernel_rfl
theorem t143_some : (Tryz.prog.underlying 143).isSome = true := by kernel_rfl
theorem t143_flds : Cfg.flds ⟨Tryz.prog, own, verT, wr, md⟩ 143 = some [(0, 1), (1, 1)] := by kernel_rfl
theorem t143_f0 : Cfg.foff ⟨Tryz.prog, own, verT, wr, md⟩ 143 0 = some (0, 2) := by kernel_rfl
theorem t143_f1 : Cfg.foff ⟨Tryz.prog, own, verT, wr, md⟩ 143 1 = some (1, 24) := by kernel_rfl
theorem t144_csz : Cfg.csz ⟨Tryz.prog, own, verT, wr, md⟩ 144 = some 2 := by kernel_rfl
theorem t144_bts : Cfg.bts ⟨Tryz.prog, own, verT, wr, md⟩ 144 = some 32 := by kernel_rfl
theorem t144_ag : Cfg.isAg ⟨Tryz.prog, own, verT, wr, md⟩ 144 = some true := by kernel_rfl
theorem t144_str : Cfg.isStr ⟨Tryz.prog, own, verT, wr, md⟩ 144 = false := by kernel_rfl
theorem t144_elem : Cfg.elemT ⟨Tryz.prog, own, verT, wr, md⟩ 144 = none := by kernel_rfl
theorem t144_zok : Cfg.zerOK ⟨Tryz.prog, own, verT, wr, md⟩ 144 = true := by kernel_rfl
theorem t144_zer : Cfg.zer ⟨Tryz.prog, own, verT, wr, md⟩ 144 = some [.v (.int .i64 0), .nil] := by kernel_rfl
theorem t144_some : (Tryz.prog.underlying 144).isSome = true := by kernel_rfl
theorem t144_flds : Cfg.flds ⟨Tryz.prog, own, verT, wr, md⟩ 144 = some [(0, 1), (1, 1)] := by kernel_rfl
theorem t144_f0 : Cfg.foff ⟨Tryz.prog, own, verT, wr, md⟩ 144 0 = some (0, 2) := by kernel_rfl
theorem t144_f1 : Cfg.foff ⟨Tryz.prog, own, verT, wr, md⟩ 144 1 = some (1, 24) := by kernel_rfl
theorem t152_csz : Cfg.csz ⟨Tryz.prog, own, verT, wr, md⟩ 152 = some 1 := by kernel_rfl
theorem t152_bts : Cfg.bts ⟨Tryz.prog, own, verT, wr, md⟩ 152 = some 8 := by kernel_rfl
theorem t152_ag : Cfg.isAg ⟨Tryz.prog, own, verT, wr, md⟩ 152 = some false := by kernel_rfl
theorem t152_str : Cfg.isStr ⟨Tryz.prog, own, verT, wr, md⟩ 152 = false := by kernel_rfl
theorem t152_int : Cfg.intK ⟨Tryz.prog, own, verT, wr, md⟩ 152 = some .u64 := by kernel_rfl
theorem t152_elem : Cfg.elemT ⟨Tryz.prog, own, verT, wr, md⟩ 152 = none := by kernel_rfl
theorem t152_zok : Cfg.zerOK ⟨Tryz.prog, own, verT, wr, md⟩ 152 = true := by kernel_rfl
theorem t152_zer : Cfg.zer ⟨Tryz.prog, own, verT, wr, md⟩ 152 = some [.v (.int .u64 0)] := by kernel_rfl
theorem t152_some : (Tryz.prog.underlying 152).isSome = true := by kernel_rfl
theorem t158_csz : Cfg.csz ⟨Tryz.prog, own, verT, wr, md⟩ 158 = some 3 := by kernel_rfl
theorem t158_bts : Cfg.bts ⟨Tryz.prog, own, verT, wr, md⟩ 158 = some 24 := by kernel_rfl
theorem t158_ag : Cfg.isAg ⟨Tryz.prog, own, verT, wr, md⟩ 158 = some true := by kernel_rfl
theorem t158_str : Cfg.isStr ⟨Tryz.prog, own, verT, wr, md⟩ 158 = false := by kernel_rfl
theorem t158_elem : Cfg.elemT ⟨Tryz.prog, own, verT, wr, md⟩ 158 = none := by kernel_rfl
theorem t158_zok : Cfg.zerOK ⟨Tryz.prog, own, verT, wr, md⟩ 158 = true := by kernel_rfl
theorem t158_zer : Cfg.zer ⟨Tryz.prog, own, verT, wr, md⟩ 158 = some [.v (.int .i64 0), .v (.int .i64 0), .v (.int .i64 0)] := by kernel_rfl
theorem t158_some : (Tryz.prog.underlying 158).isSome = true := by kernel_rfl
theorem t158_flds : Cfg.flds ⟨Tryz.prog, own, verT, wr, md⟩ 158 = some [(0, 1), (1, 1), (2, 1)] := by kernel_rfl
theorem t158_f0 : Cfg.foff ⟨Tryz.prog, own, verT, wr, md⟩ 158 0 = some (0, 2) := by kernel_rfl
theorem t158_f1 : Cfg.foff ⟨Tryz.prog, own, verT, wr, md⟩ 158 1 = some (1, 2) := by kernel_rfl
theorem t158_f2 : Cfg.foff ⟨Tryz.prog, own, verT, wr, md⟩ 158 2 = some (2, 2) := by kernel_rfl
theorem t159_csz : Cfg.csz ⟨Tryz.prog, own, verT, wr, md⟩ 159 = some 3 := by kernel_rfl
theorem t159_bts : Cfg.bts ⟨Tryz.prog, own, verT, wr, md⟩ 159 = some 24 := by kernel_rfl
theorem t159_ag : Cfg.isAg ⟨Tryz.prog, own, verT, wr, md⟩ 159 = some true := by kernel_rfl
theorem t159_str : Cfg.isStr ⟨Tryz.prog, own, verT, wr, md⟩ 159 = false := by kernel_rfl
theorem t159_elem : Cfg.elemT ⟨Tryz.prog, own, verT, wr, md⟩ 159 = none := by kernel_rfl
theorem t159_zok : Cfg.zerOK ⟨Tryz.prog, own, verT, wr, md⟩ 159 = true := by kernel_rfl
theorem t159_zer : Cfg.zer ⟨Tryz.prog, own, verT, wr, md⟩ 159 = some [.v (.int .i64 0), .v (.int .i64 0), .v (.int .i64 0)] := by kernel_rfl
theorem t159_some : (Tryz.prog.underlying 159).isSome = true := by kernel_rfl
theorem t159_flds : Cfg.flds ⟨Tryz.prog, own, verT, wr, md⟩ 159 = some [(0, 1), (1, 1), (2, 1)] := by kernel_rfl
theorem t159_f0 : Cfg.foff ⟨Tryz.prog, own, verT, wr, md⟩ 159 0 = some (0, 2) := by kernel_rfl
theorem t159_f1 : Cfg.foff ⟨Tryz.prog, own, verT, wr, md⟩ 159 1 = some (1, 2) := by kernel_rfl
theorem t159_f2 : Cfg.foff ⟨Tryz.prog, own, verT, wr, md⟩ 159 2 = some (2, 2) := by kernel_rfl
theorem t175_csz : Cfg.csz ⟨Tryz.prog, own, verT, wr, md⟩ 175 = some 2 := by kernel_rfl
theorem t175_bts : Cfg.bts ⟨Tryz.prog, own, verT, wr, md⟩ 175 = some 32 := by kernel_rfl
theorem t175_ag : Cfg.isAg ⟨Tryz.prog, own, verT, wr, md⟩ 175 = some true := by kernel_rfl
theorem t175_str : Cfg.isStr ⟨Tryz.prog, own, verT, wr, md⟩ 175 = false := by kernel_rfl
theorem t175_elem : Cfg.elemT ⟨Tryz.prog, own, verT, wr, md⟩ 175 = none := by kernel_rfl
theorem t175_zok : Cfg.zerOK ⟨Tryz.prog, own, verT, wr, md⟩ 175 = true := by kernel_rfl
theorem t175_zer : Cfg.zer ⟨Tryz.prog, own, verT, wr, md⟩ 175 = some [.nil, .v (.int .i64 0)] := by kernel_rfl
theorem t175_some : (Tryz.prog.underlying 175).isSome = true := by kernel_rfl
theorem t175_flds : Cfg.flds ⟨Tryz.prog, own, verT, wr, md⟩ 175 = some [(0, 1), (1, 1)] := by kernel_rfl
theorem t175_f0 : Cfg.foff ⟨Tryz.prog, own, verT, wr, md⟩ 175 0 = some (0, 57) := by kernel_rfl
theorem t175_f1 : Cfg.foff ⟨Tryz.prog, own, verT, wr, md⟩ 175 1 = some (1, 2) := by kernel_rfl
theorem t176_csz : Cfg.csz ⟨Tryz.prog, own, verT, wr, md⟩ 176 = some 2 := by kernel_rfl
theorem t176_bts : Cfg.bts ⟨Tryz.prog, own, verT, wr, md⟩ 176 = some 32 := by kernel_rfl
theorem t176_ag : Cfg.isAg ⟨Tryz.prog, own, verT, wr, md⟩ 176 = some true := by kernel_rfl
theorem t176_str : Cfg.isStr ⟨Tryz.prog, own, verT, wr, md⟩ 176 = false := by kernel_rfl
theorem t176_elem : Cfg.elemT ⟨Tryz.prog, own, verT, wr, md⟩ 176 = none := by kernel_rfl
theorem t176_zok : Cfg.zerOK ⟨Tryz.prog, own, verT, wr, md⟩ 176 = true := by kernel_rfl
theorem t176_zer : Cfg.zer ⟨Tryz.prog, own, verT, wr, md⟩ 176 = some [.nil, .v (.int .i64 0)] := by kernel_rfl
theorem t176_some : (Tryz.prog.underlying 176).isSome = true := by kernel_rfl
theorem t176_flds : Cfg.flds ⟨Tryz.prog, own, verT, wr, md⟩ 176 = some [(0, 1), (1, 1)] := by kernel_rfl
theorem t176_f0 : Cfg.foff ⟨Tryz.prog, own, verT, wr, md⟩ 176 0 = some (0, 57) := by kernel_rfl
theorem t176_f1 : Cfg.foff ⟨Tryz.prog, own, verT, wr, md⟩ 176 1 = some (1, 2) := by kernel_rfl
theorem t196_csz : Cfg.csz ⟨Tryz.prog, own, verT, wr, md⟩ 196 = some 1 := by kernel_rfl
theorem t196_bts : Cfg.bts ⟨Tryz.prog, own, verT, wr, md⟩ 196 = some 8 := by kernel_rfl
theorem t196_ag : Cfg.isAg ⟨Tryz.prog, own, verT, wr, md⟩ 196 = some false := by kernel_rfl
theorem t196_str : Cfg.isStr ⟨Tryz.prog, own, verT, wr, md⟩ 196 = false := by kernel_rfl
theorem t196_int : Cfg.intK ⟨Tryz.prog, own, verT, wr, md⟩ 196 = some .i64 := by kernel_rfl
theorem t196_elem : Cfg.elemT ⟨Tryz.prog, own, verT, wr, md⟩ 196 = none := by kernel_rfl
theorem t196_zok : Cfg.zerOK ⟨Tryz.prog, own, verT, wr, md⟩ 196 = true := by kernel_rfl
theorem t196_zer : Cfg.zer ⟨Tryz.prog, own, verT, wr, md⟩ 196 = some [.v (.int .i64 0)] := by kernel_rfl
theorem t196_some : (Tryz.prog.underlying 196).isSome = true := by kernel_rfl
theorem t205_csz : Cfg.csz ⟨Tryz.prog, own, verT, wr, md⟩ 205 = some 1 := by kernel_rfl
theorem t205_bts : Cfg.bts ⟨Tryz.prog, own, verT, wr, md⟩ 205 = some 4 := by kernel_rfl
theorem t205_ag : Cfg.isAg ⟨Tryz.prog, own, verT, wr, md⟩ 205 = some false := by kernel_rfl
theorem t205_str : Cfg.isStr ⟨Tryz.prog, own, verT, wr, md⟩ 205 = false := by kernel_rfl
theorem t205_int : Cfg.intK ⟨Tryz.prog, own, verT, wr, md⟩ 205 = some .u32 := by kernel_rfl
theorem t205_elem : Cfg.elemT ⟨Tryz.prog, own, verT, wr, md⟩ 205 = none := by kernel_rfl
theorem t205_zok : Cfg.zerOK ⟨Tryz.prog, own, verT, wr, md⟩ 205 = true := by kernel_rfl
theorem t205_zer : Cfg.zer ⟨Tryz.prog, own, verT, wr, md⟩ 205 = some [.v (.int .u32 0)] := by kernel_rfl
theorem t205_some : (Tryz.prog.underlying 205).isSome = true := by kernel_rfl
theorem t207_csz : Cfg.csz ⟨Tryz.prog, own, verT, wr, md⟩ 207 = some 1 := by kernel_rfl
theorem t207_bts : Cfg.bts ⟨Tryz.prog, own, verT, wr, md⟩ 207 = some 8 := by kernel_rfl
theorem t207_ag : Cfg.isAg ⟨Tryz.prog, own, verT, wr, md⟩ 207 = some false := by kernel_rfl
theorem t207_str : Cfg.isStr ⟨Tryz.prog, own, verT, wr, md⟩ 207 = false := by kernel_rfl
theorem t207_int : Cfg.intK ⟨Tryz.prog, own, verT, wr, md⟩ 207 = some .u64 := by kernel_rfl
theorem t207_elem : Cfg.elemT ⟨Tryz.prog, own, verT, wr, md⟩ 207 = none := by kernel_rfl
theorem t207_zok : Cfg.zerOK ⟨Tryz.prog, own, verT, wr, md⟩ 207 = true := by kernel_rfl
theorem t207_zer : Cfg.zer ⟨Tryz.prog, own, verT, wr, md⟩ 207 = some [.v (.int .u64 0)] := by kernel_rfl
theorem t207_some : (Tryz.prog.underlying 207).isSome = true := by kernel_rfl
theorem t221_csz : Cfg.csz ⟨Tryz.prog, own, verT, wr, md⟩ 221 = some 1 := by kernel_rfl
theorem t221_bts : Cfg.bts ⟨Tryz.prog, own, verT, wr, md⟩ 221 = some 24 := by kernel_rfl
theorem t221_ag : Cfg.isAg ⟨Tryz.prog, own, verT, wr, md⟩ 221 = some false := by kernel_rfl
theorem t221_str : Cfg.isStr ⟨Tryz.prog, own, verT, wr, md⟩ 221 = false := by kernel_rfl
theorem t221_elem : Cfg.elemT ⟨Tryz.prog, own, verT, wr, md⟩ 221 = some 24 := by kernel_rfl
theorem t221_zok : Cfg.zerOK ⟨Tryz.prog, own, verT, wr, md⟩ 221 = true := by kernel_rfl
theorem t221_zer : Cfg.zer ⟨Tryz.prog, own, verT, wr, md⟩ 221 = some [.nil] := by kernel_rfl
theorem t221_some : (Tryz.prog.underlying 221).isSome = true := by kernel_rfl
theorem t230_csz : Cfg.csz ⟨Tryz.prog, own, verT, wr, md⟩ 230 = some 1 := by kernel_rfl
theorem t230_bts : Cfg.bts ⟨Tryz.prog, own, verT, wr, md⟩ 230 = some 8 := by kernel_rfl
theorem t230_ag : Cfg.isAg ⟨Tryz.prog, own, verT, wr, md⟩ 230 = some false := by kernel_rfl
theorem t230_str : Cfg.isStr ⟨Tryz.prog, own, verT, wr, md⟩ 230 = false := by kernel_rfl
theorem t230_int : Cfg.intK ⟨Tryz.prog, own, verT, wr, md⟩ 230 = some .u64 := by kernel_rfl
theorem t230_elem : Cfg.elemT ⟨Tryz.prog, own, verT, wr, md⟩ 230 = none := by kernel_rfl
theorem t230_zok : Cfg.zerOK ⟨Tryz.prog, own, verT, wr, md⟩ 230 = true := by kernel_rfl
theorem t230_zer : Cfg.zer ⟨Tryz.prog, own, verT, wr, md⟩ 230 = some [.v (.int .u64 0)] := by kernel_rfl
theorem t230_some : (Tryz.prog.underlying 230).isSome = true := by kernel_rfl
theorem t264_csz : Cfg.csz ⟨Tryz.prog, own, verT, wr, md⟩ 264 = some 1 := by kernel_rfl
theorem t264_bts : Cfg.bts ⟨Tryz.prog, own, verT, wr, md⟩ 264 = some 1 := by kernel_rfl
theorem t264_ag : Cfg.isAg ⟨Tryz.prog, own, verT, wr, md⟩ 264 = some false := by kernel_rfl
theorem t264_str : Cfg.isStr ⟨Tryz.prog, own, verT, wr, md⟩ 264 = false := by kernel_rfl
theorem t264_int : Cfg.intK ⟨Tryz.prog, own, verT, wr, md⟩ 264 = some .u8 := by kernel_rfl
theorem t264_elem : Cfg.elemT ⟨Tryz.prog, own, verT, wr, md⟩ 264 = none := by kernel_rfl
theorem t264_zok : Cfg.zerOK ⟨Tryz.prog, own, verT, wr, md⟩ 264 = true := by kernel_rfl
theorem t264_zer : Cfg.zer ⟨Tryz.prog, own, verT, wr, md⟩ 264 = some [.v (.int .u8 0)] := by kernel_rfl
theorem t264_some : (Tryz.prog.underlying 264).isSome = true := by kernel_rfl
theorem t265_csz : Cfg.csz ⟨Tryz.prog, own, verT, wr, md⟩ 265 = some 1 := by kernel_rfl
theorem t265_bts : Cfg.bts ⟨Tryz.prog, own, verT, wr, md⟩ 265 = some 1 := by kernel_rfl
theorem t265_ag : Cfg.isAg ⟨Tryz.prog, own, verT, wr, md⟩ 265 = some false := by kernel_rfl
theorem t265_str : Cfg.isStr ⟨Tryz.prog, own, verT, wr, md⟩ 265 = false := by kernel_rfl
theorem t265_int : Cfg.intK ⟨Tryz.prog, own, verT, wr, md⟩ 265 = some .u8 := by kernel_rfl
theorem t265_elem : Cfg.elemT ⟨Tryz.prog, own, verT, wr, md⟩ 265 = none := by kernel_rfl
theorem t265_zok : Cfg.zerOK ⟨Tryz.prog, own, verT, wr, md⟩ 265 = true := by kernel_rfl
theorem t265_zer : Cfg.zer ⟨Tryz.prog, own, verT, wr, md⟩ 265 = some [.v (.int .u8 0)] := by kernel_rfl
theorem t265_some : (Tryz.prog.underlying 265).isSome = true := by kernel_rfl
theorem t268_csz : Cfg.csz ⟨Tryz.prog, own, verT, wr, md⟩ 268 = some 1 := by kernel_rfl
theorem t268_bts : Cfg.bts ⟨Tryz.prog, own, verT, wr, md⟩ 268 = some 4 := by kernel_rfl
theorem t268_ag : Cfg.isAg ⟨Tryz.prog, own, verT, wr, md⟩ 268 = some false := by kernel_rfl
theorem t268_str : Cfg.isStr ⟨Tryz.prog, own, verT, wr, md⟩ 268 = false := by kernel_rfl
theorem t268_int : Cfg.intK ⟨Tryz.prog, own, verT, wr, md⟩ 268 = some .i32 := by kernel_rfl
theorem t268_elem : Cfg.elemT ⟨Tryz.prog, own, verT, wr, md⟩ 268 = none := by kernel_rfl
theorem t268_zok : Cfg.zerOK ⟨Tryz.prog, own, verT, wr, md⟩ 268 = true := by kernel_rfl
theorem t268_zer : Cfg.zer ⟨Tryz.prog, own, verT, wr, md⟩ 268 = some [.v (.int .i32 0)] := by kernel_rfl
theorem t268_some : (Tryz.prog.underlying 268).isSome = true := by kernel_rfl
theorem t269_csz : Cfg.csz ⟨Tryz.prog, own, verT, wr, md⟩ 269 = some 1 := by kernel_rfl
theorem t269_bts : Cfg.bts ⟨Tryz.prog, own, verT, wr, md⟩ 269 = some 4 := by kernel_rfl
theorem t269_ag : Cfg.isAg ⟨Tryz.prog, own, verT, wr, md⟩ 269 = some false := by kernel_rfl
theorem t269_str : Cfg.isStr ⟨Tryz.prog, own, verT, wr, md⟩ 269 = false := by kernel_rfl
theorem t269_int : Cfg.intK ⟨Tryz.prog, own, verT, wr, md⟩ 269 = some .i32 := by kernel_rfl
theorem t269_elem : Cfg.elemT ⟨Tryz.prog, own, verT, wr, md⟩ 269 = none := by kernel_rfl
theorem t269_zok : Cfg.zerOK ⟨Tryz.prog, own, verT, wr, md⟩ 269 = true := by kernel_rfl
theorem t269_zer : Cfg.zer ⟨Tryz.prog, own, verT, wr, md⟩ 269 = some [.v (.int .i32 0)] := by kernel_rfl
theorem t269_some : (Tryz.prog.underlying 269).isSome = true := by kernel_rfl
end
attribute [simp] t2_csz t2_bts t2_ag t2_str t2_int t2_elem t2_zok t2_zer t2_some t3_csz t3_bts t3_ag t3_str t3_int t3_elem t3_zok t3_zer t3_some t4_csz t4_bts t4_ag t4_str t4_bool t4_elem t4_zok t4_zer t4_some t5_csz t5_bts t5_ag t5_str t5_int t5_elem t5_zok t5_zer t5_some t6_csz t6_bts t6_ag t6_str
attribute [simp] t6_int t6_elem t6_zok t6_zer t6_some t7_csz t7_bts t7_ag t7_str t7_elem t7_zok t7_zer t7_some t7_flds t7_f0 t7_f1 t7_f2 t7_f3 t8_csz t8_bts t8_ag t8_str t8_elem t8_zok t8_zer t8_some t8_flds t8_f0 t8_f1 t8_f2 t8_f3 t9_csz t9_bts t9_ag t9_str t9_elem t9_zok t9_zer t9_some t10_csz
attribute [simp] t10_bts t10_ag t10_str t10_elem t10_zok t10_zer t10_some t11_csz t11_bts t11_ag t11_str t11_elem t11_zok t11_zer t11_some t12_csz t12_bts t12_ag t12_str t12_int t12_elem t12_zok t12_zer t12_some t13_csz t13_bts t13_ag t13_str t13_elem t13_zok t13_zer t13_some t13_flds t13_f0 t13_f1 t14_csz t14_bts t14_ag t14_str t14_elem
attribute [simp] t14_zok t14_zer t14_some t14_flds t14_f0 t14_f1 t21_csz t21_bts t21_ag t21_str t21_int t21_elem t21_zok t21_zer t21_some t22_csz t22_bts t22_ag t22_str t22_elem t22_zok t22_zer t22_some t23_csz t23_bts t23_ag t23_str t23_elem t23_zok t23_zer t23_some t24_csz t24_bts t24_ag t24_str t24_elem t24_zok t24_zer t24_some t27_csz
attribute [simp] t27_bts t27_ag t27_str t27_elem t27_zok t27_zer t27_some t27_flds t27_f0 t27_f1 t27_f2 t28_csz t28_bts t28_ag t28_str t28_elem t28_zok t28_zer t28_some t28_flds t28_f0 t28_f1 t28_f2 t30_csz t30_bts t30_ag t30_str t30_elem t30_zok t30_zer t30_some t32_csz t32_bts t32_ag t32_str t32_elem t32_zok t32_zer t32_some t44_csz
attribute [simp] t44_bts t44_ag t44_str t44_elem t44_zok t44_zer t44_some t45_csz t45_bts t45_ag t45_str t45_elem t45_zok t45_zer t45_some t45_flds t45_f0 t45_f1 t46_csz t46_bts t46_ag t46_str t46_elem t46_zok t46_zer t46_some t46_flds t46_f0 t46_f1 t51_csz t51_bts t51_ag t51_str t51_elem t51_zok t51_zer t51_some t51_flds t51_f0 t51_f1
attribute [simp] t51_f2 t52_csz t52_bts t52_ag t52_str t52_elem t52_zok t52_zer t52_some t52_flds t52_f0 t52_f1 t52_f2 t57_csz t57_bts t57_ag t57_str t57_elem t57_zok t57_zer t57_some t59_csz t59_bts t59_ag t59_str t59_elem t59_zok t59_zer t59_some t63_csz t63_bts t63_ag t63_str t63_elem t63_zok t63_zer t63_some t63_flds t63_f0 t63_f1
attribute [simp] t63_f2 t64_csz t64_bts t64_ag t64_str t64_elem t64_zok t64_zer t64_some t64_flds t64_f0 t64_f1 t64_f2 t65_csz t65_bts t65_ag t65_str t65_elem t65_zok t65_zer t65_some t66_csz t66_bts t66_ag t66_str t66_elem t66_zok t66_zer t66_some t66_flds t66_f0 t66_f1 t66_f2 t66_f3 t66_f4 t66_f5 t67_csz t67_bts t67_ag t67_str
attribute [simp] t67_elem t67_zok t67_zer t67_some t67_flds t67_f0 t67_f1 t67_f2 t67_f3 t67_f4 t67_f5 t74_csz t74_bts t74_ag t74_str t74_elem t74_zok t74_zer t74_some t74_flds t74_f0 t74_f1 t75_csz t75_bts t75_ag t75_str t75_elem t75_zok t75_zer t75_some t75_flds t75_f0 t75_f1 t89_csz t89_bts t89_ag t89_str t89_elem t89_zok t89_zer
attribute [simp] t89_some t90_csz t90_bts t90_ag t90_str t90_elem t90_zok t90_zer t90_some t90_flds t90_f0 t90_f1 t91_csz t91_bts t91_ag t91_str t91_elem t91_zok t91_zer t91_some t91_flds t91_f0 t91_f1 t96_csz t96_bts t96_ag t96_str t96_elem t96_zok t96_zer t96_some t96_flds t96_f0 t96_f1 t96_f2 t97_csz t97_bts t97_ag t97_str t97_elem
attribute [simp] t97_zok t97_zer t97_some t98_csz t98_bts t98_ag t98_str t98_elem t98_zok t98_zer t98_some t98_flds t98_f0 t98_f1 t98_f2 t98_f3 t98_f4 t98_f5 t99_csz t99_bts t99_ag t99_str t99_elem t99_zok t99_zer t99_some t99_flds t99_f0 t99_f1 t99_f2 t99_f3 t99_f4 t99_f5 t101_csz t101_bts t101_ag t101_str t101_elem t101_zok t101_zer
attribute [simp] t101_some t101_flds t101_f0 t101_f1 t101_f2 t102_csz t102_bts t102_ag t102_str t102_elem t102_zok t102_zer t102_some t102_flds t102_f0 t102_f1 t102_f2 t104_csz t104_bts t104_ag t104_str t104_elem t104_zok t104_zer t104_some t104_flds t104_f0 t104_f1 t104_f2 t105_csz t105_bts t105_ag t105_str t105_elem t105_zok t105_zer t105_some t105_flds t105_f0 t105_f1
attribute [simp] t105_f2 t107_csz t107_bts t107_ag t107_str t107_elem t107_zok t107_zer t107_some t140_csz t140_bts t140_ag t140_str t140_elem t140_zok t140_zer t140_some t143_csz t143_bts t143_ag t143_str t143_elem t143_zok t143_zer t143_some t143_flds t143_f0 t143_f1 t144_csz t144_bts t144_ag t144_str t144_elem t144_zok t144_zer t144_some t144_flds t144_f0 t144_f1 t152_csz
attribute [simp] t152_bts t152_ag t152_str t152_int t152_elem t152_zok t152_zer t152_some t158_csz t158_bts t158_ag t158_str t158_elem t158_zok t158_zer t158_some t158_flds t158_f0 t158_f1 t158_f2 t159_csz t159_bts t159_ag t159_str t159_elem t159_zok t159_zer t159_some t159_flds t159_f0 t159_f1 t159_f2 t175_csz t175_bts t175_ag t175_str t175_elem t175_zok t175_zer t175_some
attribute [simp] t175_flds t175_f0 t175_f1 t176_csz t176_bts t176_ag t176_str t176_elem t176_zok t176_zer t176_some t176_flds t176_f0 t176_f1 t196_csz t196_bts t196_ag t196_str t196_int t196_elem t196_zok t196_zer t196_some t205_csz t205_bts t205_ag t205_str t205_int t205_elem t205_zok t205_zer t205_some t207_csz t207_bts t207_ag t207_str t207_int t207_elem t207_zok t207_zer
attribute [simp] t207_some t221_csz t221_bts t221_ag t221_str t221_elem t221_zok t221_zer t221_some t230_csz t230_bts t230_ag t230_str t230_int t230_elem t230_zok t230_zer t230_some t264_csz t264_bts t264_ag t264_str t264_int t264_elem t264_zok t264_zer t264_some t265_csz t265_bts t265_ag t265_str t265_int t265_elem t265_zok t265_zer t265_some t268_csz t268_bts t268_ag t268_str
attribute [simp] t268_int t268_elem t268_zok t268_zer t268_some t269_csz t269_bts t269_ag t269_str t269_int t269_elem t269_zok t269_zer t269_some
end Go.Proofs.YtokhnmchnfkiiaaGreat.Am
