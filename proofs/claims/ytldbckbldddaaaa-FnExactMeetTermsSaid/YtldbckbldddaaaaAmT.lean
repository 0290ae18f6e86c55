/- Facts about the types of the program. No conditions. -/
import Derived.Test.YtldbckbldddaaaaProg
import Derived.Test.YtldbckbldddaaaaAmS
namespace Go.Proofs.Ytldbckbldddaaaa.Am
open Go Go.RowKit Go.Proofs
set_option linter.unusedSimpArgs false
set_option linter.unusedVariables false
section
variable (own verT wr : Nat → Bool)
theorem t2_csz : Cfg.csz ⟨Try.prog, own, verT, wr⟩ 2 = some 1 := by kernel_rfl
theorem t2_bts : Cfg.bts ⟨Try.prog, own, verT, wr⟩ 2 = some 8 := by kernel_rfl
theorem t2_ag : Cfg.isAg ⟨Try.prog, own, verT, wr⟩ 2 = some false := by kernel_rfl
theorem t2_str : Cfg.isStr ⟨Try.prog, own, verT, wr⟩ 2 = false := by kernel_rfl
theorem t2_int : Cfg.intK ⟨Try.prog, own, verT, wr⟩ 2 = some .i64 := by kernel_rfl
theorem t2_elem : Cfg.elemT ⟨Try.prog, own, verT, wr⟩ 2 = none := by kernel_rfl
theorem t2_zok : Cfg.zerOK ⟨Try.prog, own, verT, wr⟩ 2 = true := by kernel_rfl
theorem t2_zer : Cfg.zer ⟨Try.prog, own, verT, wr⟩ 2 = some [.v (.int .i64 0)] := by kernel_rfl
theorem t2_some : (Try.prog.underlying 2).isSome = true := by kernel_rfl
theorem t3_csz : Cfg.csz ⟨Try.prog, own, verT, wr⟩ 3 = some 1 := by kernel_rfl
theorem t3_bts : Cfg.bts ⟨Try.prog, own, verT, wr⟩ 3 = some 8 := by kernel_rfl
theorem t3_ag : Cfg.isAg ⟨Try.prog, own, verT, wr⟩ 3 = some false := by kernel_rfl
theorem t3_str : Cfg.isStr ⟨Try.prog, own, verT, wr⟩ 3 = false := by kernel_rfl
theorem t3_int : Cfg.intK ⟨Try.prog, own, verT, wr⟩ 3 = some .i64 := by kernel_rfl
theorem t3_elem : Cfg.elemT ⟨Try.prog, own, verT, wr⟩ 3 = none := by kernel_rfl
theorem t3_zok : Cfg.zerOK ⟨Try.prog, own, verT, wr⟩ 3 = true := by kernel_rfl
theorem t3_zer : Cfg.zer ⟨Try.prog, own, verT, wr⟩ 3 = some [.v (.int .i64 0)] := by kernel_rfl
theorem t3_some : (Try.prog.underlying 3).isSome = true := by kernel_rfl
theorem t4_csz : Cfg.csz ⟨Try.prog, own, verT, wr⟩ 4 = some 1 := by kernel_rfl
theorem t4_bts : Cfg.bts ⟨Try.prog, own, verT, wr⟩ 4 = some 1 := by kernel_rfl
theorem t4_ag : Cfg.isAg ⟨Try.prog, own, verT, wr⟩ 4 = some false := by kernel_rfl
theorem t4_str : Cfg.isStr ⟨Try.prog, own, verT, wr⟩ 4 = false := by kernel_rfl
theorem t4_bool : Cfg.isBool ⟨Try.prog, own, verT, wr⟩ 4 = true := by kernel_rfl
theorem t4_elem : Cfg.elemT ⟨Try.prog, own, verT, wr⟩ 4 = none := by kernel_rfl
theorem t4_zok : Cfg.zerOK ⟨Try.prog, own, verT, wr⟩ 4 = true := by kernel_rfl
theorem t4_zer : Cfg.zer ⟨Try.prog, own, verT, wr⟩ 4 = some [.v (.bool false)] := by kernel_rfl
theorem t4_some : (Try.prog.underlying 4).isSome = true := by kernel_rfl
theorem t5_csz : Cfg.csz ⟨Try.prog, own, verT, wr⟩ 5 = some 1 := by kernel_rfl
theorem t5_bts : Cfg.bts ⟨Try.prog, own, verT, wr⟩ 5 = some 1 := by kernel_rfl
theorem t5_ag : Cfg.isAg ⟨Try.prog, own, verT, wr⟩ 5 = some false := by kernel_rfl
theorem t5_str : Cfg.isStr ⟨Try.prog, own, verT, wr⟩ 5 = false := by kernel_rfl
theorem t5_int : Cfg.intK ⟨Try.prog, own, verT, wr⟩ 5 = some .u8 := by kernel_rfl
theorem t5_elem : Cfg.elemT ⟨Try.prog, own, verT, wr⟩ 5 = none := by kernel_rfl
theorem t5_zok : Cfg.zerOK ⟨Try.prog, own, verT, wr⟩ 5 = true := by kernel_rfl
theorem t5_zer : Cfg.zer ⟨Try.prog, own, verT, wr⟩ 5 = some [.v (.int .u8 0)] := by kernel_rfl
theorem t5_some : (Try.prog.underlying 5).isSome = true := by kernel_rfl
theorem t6_csz : Cfg.csz ⟨Try.prog, own, verT, wr⟩ 6 = some 1 := by kernel_rfl
theorem t6_bts : Cfg.bts ⟨Try.prog, own, verT, wr⟩ 6 = some 1 := by kernel_rfl
theorem t6_ag : Cfg.isAg ⟨Try.prog, own, verT, wr⟩ 6 = some false := by kernel_rfl
theorem t6_str : Cfg.isStr ⟨Try.prog, own, verT, wr⟩ 6 = false := by kernel_rfl
theorem t6_int : Cfg.intK ⟨Try.prog, own, verT, wr⟩ 6 = some .u8 := by kernel_rfl
theorem t6_elem : Cfg.elemT ⟨Try.prog, own, verT, wr⟩ 6 = none := by kernel_rfl
theorem t6_zok : Cfg.zerOK ⟨Try.prog, own, verT, wr⟩ 6 = true := by kernel_rfl
theorem t6_zer : Cfg.zer ⟨Try.prog, own, verT, wr⟩ 6 = some [.v (.int .u8 0)] := by kernel_rfl
theorem t6_some : (Try.prog.underlying 6).isSome = true := by kernel_rfl
theorem t7_csz : Cfg.csz ⟨Try.prog, own, verT, wr⟩ 7 = some 4 := by kernel_rfl
theorem t7_bts : Cfg.bts ⟨Try.prog, own, verT, wr⟩ 7 = some 24 := by kernel_rfl
theorem t7_ag : Cfg.isAg ⟨Try.prog, own, verT, wr⟩ 7 = some true := by kernel_rfl
theorem t7_str : Cfg.isStr ⟨Try.prog, own, verT, wr⟩ 7 = false := by kernel_rfl
theorem t7_elem : Cfg.elemT ⟨Try.prog, own, verT, wr⟩ 7 = none := by kernel_rfl
theorem t7_zok : Cfg.zerOK ⟨Try.prog, own, verT, wr⟩ 7 = true := by kernel_rfl
theorem t7_zer : Cfg.zer ⟨Try.prog, own, verT, wr⟩ 7 = some [.v (.int .i64 0), .v (.int .i64 0), .v (.bool false), .v (.int .u8 0)] := by kernel_rfl
theorem t7_some : (Try.prog.underlying 7).isSome = true := by kernel_rfl
theorem t7_flds : Cfg.flds ⟨Try.prog, own, verT, wr⟩ 7 = some [(0, 1), (1, 1), (2, 1), (3, 1)] := by kernel_rfl
theorem t7_f0 : Cfg.foff ⟨Try.prog, own, verT, wr⟩ 7 0 = some (0, 2) := by kernel_rfl
theorem t7_f1 : Cfg.foff ⟨Try.prog, own, verT, wr⟩ 7 1 = some (1, 3) := by kernel_rfl
theorem t7_f2 : Cfg.foff ⟨Try.prog, own, verT, wr⟩ 7 2 = some (2, 4) := by kernel_rfl
theorem t7_f3 : Cfg.foff ⟨Try.prog, own, verT, wr⟩ 7 3 = some (3, 6) := by kernel_rfl
theorem t8_csz : Cfg.csz ⟨Try.prog, own, verT, wr⟩ 8 = some 4 := by kernel_rfl
theorem t8_bts : Cfg.bts ⟨Try.prog, own, verT, wr⟩ 8 = some 24 := by kernel_rfl
theorem t8_ag : Cfg.isAg ⟨Try.prog, own, verT, wr⟩ 8 = some true := by kernel_rfl
theorem t8_str : Cfg.isStr ⟨Try.prog, own, verT, wr⟩ 8 = false := by kernel_rfl
theorem t8_elem : Cfg.elemT ⟨Try.prog, own, verT, wr⟩ 8 = none := by kernel_rfl
theorem t8_zok : Cfg.zerOK ⟨Try.prog, own, verT, wr⟩ 8 = true := by kernel_rfl
theorem t8_zer : Cfg.zer ⟨Try.prog, own, verT, wr⟩ 8 = some [.v (.int .i64 0), .v (.int .i64 0), .v (.bool false), .v (.int .u8 0)] := by kernel_rfl
theorem t8_some : (Try.prog.underlying 8).isSome = true := by kernel_rfl
theorem t8_flds : Cfg.flds ⟨Try.prog, own, verT, wr⟩ 8 = some [(0, 1), (1, 1), (2, 1), (3, 1)] := by kernel_rfl
theorem t8_f0 : Cfg.foff ⟨Try.prog, own, verT, wr⟩ 8 0 = some (0, 2) := by kernel_rfl
theorem t8_f1 : Cfg.foff ⟨Try.prog, own, verT, wr⟩ 8 1 = some (1, 3) := by kernel_rfl
theorem t8_f2 : Cfg.foff ⟨Try.prog, own, verT, wr⟩ 8 2 = some (2, 4) := by kernel_rfl
theorem t8_f3 : Cfg.foff ⟨Try.prog, own, verT, wr⟩ 8 3 = some (3, 6) := by kernel_rfl
theorem t9_csz : Cfg.csz ⟨Try.prog, own, verT, wr⟩ 9 = some 1 := by kernel_rfl
theorem t9_bts : Cfg.bts ⟨Try.prog, own, verT, wr⟩ 9 = some 16 := by kernel_rfl
theorem t9_ag : Cfg.isAg ⟨Try.prog, own, verT, wr⟩ 9 = some false := by kernel_rfl
theorem t9_str : Cfg.isStr ⟨Try.prog, own, verT, wr⟩ 9 = true := by kernel_rfl
theorem t9_elem : Cfg.elemT ⟨Try.prog, own, verT, wr⟩ 9 = none := by kernel_rfl
theorem t9_zok : Cfg.zerOK ⟨Try.prog, own, verT, wr⟩ 9 = true := by kernel_rfl
theorem t9_zer : Cfg.zer ⟨Try.prog, own, verT, wr⟩ 9 = some [.v (.string ByteArray.empty)] := by kernel_rfl
theorem t9_some : (Try.prog.underlying 9).isSome = true := by kernel_rfl
theorem t10_csz : Cfg.csz ⟨Try.prog, own, verT, wr⟩ 10 = some 1 := by kernel_rfl
theorem t10_bts : Cfg.bts ⟨Try.prog, own, verT, wr⟩ 10 = some 16 := by kernel_rfl
theorem t10_ag : Cfg.isAg ⟨Try.prog, own, verT, wr⟩ 10 = some false := by kernel_rfl
theorem t10_str : Cfg.isStr ⟨Try.prog, own, verT, wr⟩ 10 = true := by kernel_rfl
theorem t10_elem : Cfg.elemT ⟨Try.prog, own, verT, wr⟩ 10 = none := by kernel_rfl
theorem t10_zok : Cfg.zerOK ⟨Try.prog, own, verT, wr⟩ 10 = true := by kernel_rfl
theorem t10_zer : Cfg.zer ⟨Try.prog, own, verT, wr⟩ 10 = some [.v (.string ByteArray.empty)] := by kernel_rfl
theorem t10_some : (Try.prog.underlying 10).isSome = true := by kernel_rfl
theorem t11_csz : Cfg.csz ⟨Try.prog, own, verT, wr⟩ 11 = some 1 := by kernel_rfl
theorem t11_bts : Cfg.bts ⟨Try.prog, own, verT, wr⟩ 11 = some 16 := by kernel_rfl
theorem t11_ag : Cfg.isAg ⟨Try.prog, own, verT, wr⟩ 11 = some false := by kernel_rfl
theorem t11_str : Cfg.isStr ⟨Try.prog, own, verT, wr⟩ 11 = true := by kernel_rfl
theorem t11_elem : Cfg.elemT ⟨Try.prog, own, verT, wr⟩ 11 = none := by kernel_rfl
theorem t11_zok : Cfg.zerOK ⟨Try.prog, own, verT, wr⟩ 11 = true := by kernel_rfl
theorem t11_zer : Cfg.zer ⟨Try.prog, own, verT, wr⟩ 11 = some [.v (.string ByteArray.empty)] := by kernel_rfl
theorem t11_some : (Try.prog.underlying 11).isSome = true := by kernel_rfl
theorem t12_csz : Cfg.csz ⟨Try.prog, own, verT, wr⟩ 12 = some 1 := by kernel_rfl
theorem t12_bts : Cfg.bts ⟨Try.prog, own, verT, wr⟩ 12 = some 8 := by kernel_rfl
theorem t12_ag : Cfg.isAg ⟨Try.prog, own, verT, wr⟩ 12 = some false := by kernel_rfl
theorem t12_str : Cfg.isStr ⟨Try.prog, own, verT, wr⟩ 12 = false := by kernel_rfl
theorem t12_int : Cfg.intK ⟨Try.prog, own, verT, wr⟩ 12 = some .u64 := by kernel_rfl
theorem t12_elem : Cfg.elemT ⟨Try.prog, own, verT, wr⟩ 12 = none := by kernel_rfl
theorem t12_zok : Cfg.zerOK ⟨Try.prog, own, verT, wr⟩ 12 = true := by kernel_rfl
theorem t12_zer : Cfg.zer ⟨Try.prog, own, verT, wr⟩ 12 = some [.v (.int .u64 0)] := by kernel_rfl
theorem t12_some : (Try.prog.underlying 12).isSome = true := by kernel_rfl
theorem t13_csz : Cfg.csz ⟨Try.prog, own, verT, wr⟩ 13 = some 2 := by kernel_rfl
theorem t13_bts : Cfg.bts ⟨Try.prog, own, verT, wr⟩ 13 = some 24 := by kernel_rfl
theorem t13_ag : Cfg.isAg ⟨Try.prog, own, verT, wr⟩ 13 = some true := by kernel_rfl
theorem t13_str : Cfg.isStr ⟨Try.prog, own, verT, wr⟩ 13 = false := by kernel_rfl
theorem t13_elem : Cfg.elemT ⟨Try.prog, own, verT, wr⟩ 13 = none := by kernel_rfl
theorem t13_zok : Cfg.zerOK ⟨Try.prog, own, verT, wr⟩ 13 = true := by kernel_rfl
theorem t13_zer : Cfg.zer ⟨Try.prog, own, verT, wr⟩ 13 = some [.v (.string ByteArray.empty), .v (.int .u64 0)] := by kernel_rfl
theorem t13_some : (Try.prog.underlying 13).isSome = true := by kernel_rfl
theorem t13_flds : Cfg.flds ⟨Try.prog, own, verT, wr⟩ 13 = some [(0, 1), (1, 1)] := by kernel_rfl
theorem t13_f0 : Cfg.foff ⟨Try.prog, own, verT, wr⟩ 13 0 = some (0, 9) := by kernel_rfl
theorem t13_f1 : Cfg.foff ⟨Try.prog, own, verT, wr⟩ 13 1 = some (1, 12) := by kernel_rfl
theorem t14_csz : Cfg.csz ⟨Try.prog, own, verT, wr⟩ 14 = some 2 := by kernel_rfl
theorem t14_bts : Cfg.bts ⟨Try.prog, own, verT, wr⟩ 14 = some 24 := by kernel_rfl
theorem t14_ag : Cfg.isAg ⟨Try.prog, own, verT, wr⟩ 14 = some true := by kernel_rfl
theorem t14_str : Cfg.isStr ⟨Try.prog, own, verT, wr⟩ 14 = false := by kernel_rfl
theorem t14_elem : Cfg.elemT ⟨Try.prog, own, verT, wr⟩ 14 = none := by kernel_rfl
theorem t14_zok : Cfg.zerOK ⟨Try.prog, own, verT, wr⟩ 14 = true := by kernel_rfl
theorem t14_zer : Cfg.zer ⟨Try.prog, own, verT, wr⟩ 14 = some [.v (.string ByteArray.empty), .v (.int .u64 0)] := by kernel_rfl
theorem t14_some : (Try.prog.underlying 14).isSome = true := by kernel_rfl
theorem t14_flds : Cfg.flds ⟨Try.prog, own, verT, wr⟩ 14 = some [(0, 1), (1, 1)] := by kernel_rfl
theorem t14_f0 : Cfg.foff ⟨Try.prog, own, verT, wr⟩ 14 0 = some (0, 9) := by kernel_rfl
theorem t14_f1 : Cfg.foff ⟨Try.prog, own, verT, wr⟩ 14 1 = some (1, 12) := by kernel_rfl
theorem t21_csz : Cfg.csz ⟨Try.prog, own, verT, wr⟩ 21 = some 1 := by kernel_rfl
theorem t21_bts : Cfg.bts ⟨Try.prog, own, verT, wr⟩ 21 = some 4 := by kernel_rfl
theorem t21_ag : Cfg.isAg ⟨Try.prog, own, verT, wr⟩ 21 = some false := by kernel_rfl
theorem t21_str : Cfg.isStr ⟨Try.prog, own, verT, wr⟩ 21 = false := by kernel_rfl
theorem t21_int : Cfg.intK ⟨Try.prog, own, verT, wr⟩ 21 = some .i32 := by kernel_rfl
theorem t21_elem : Cfg.elemT ⟨Try.prog, own, verT, wr⟩ 21 = none := by kernel_rfl
theorem t21_zok : Cfg.zerOK ⟨Try.prog, own, verT, wr⟩ 21 = true := by kernel_rfl
theorem t21_zer : Cfg.zer ⟨Try.prog, own, verT, wr⟩ 21 = some [.v (.int .i32 0)] := by kernel_rfl
theorem t21_some : (Try.prog.underlying 21).isSome = true := by kernel_rfl
theorem t23_csz : Cfg.csz ⟨Try.prog, own, verT, wr⟩ 23 = some 3 := by kernel_rfl
theorem t23_bts : Cfg.bts ⟨Try.prog, own, verT, wr⟩ 23 = some 24 := by kernel_rfl
theorem t23_ag : Cfg.isAg ⟨Try.prog, own, verT, wr⟩ 23 = some true := by kernel_rfl
theorem t23_str : Cfg.isStr ⟨Try.prog, own, verT, wr⟩ 23 = false := by kernel_rfl
theorem t23_elem : Cfg.elemT ⟨Try.prog, own, verT, wr⟩ 23 = none := by kernel_rfl
theorem t23_zok : Cfg.zerOK ⟨Try.prog, own, verT, wr⟩ 23 = true := by kernel_rfl
theorem t23_zer : Cfg.zer ⟨Try.prog, own, verT, wr⟩ 23 = some [.v (.int .i64 0), .v (.int .i64 0), .v (.int .i64 0)] := by kernel_rfl
theorem t23_some : (Try.prog.underlying 23).isSome = true := by kernel_rfl
theorem t23_flds : Cfg.flds ⟨Try.prog, own, verT, wr⟩ 23 = some [(0, 1), (1, 1), (2, 1)] := by kernel_rfl
theorem t23_f0 : Cfg.foff ⟨Try.prog, own, verT, wr⟩ 23 0 = some (0, 2) := by kernel_rfl
theorem t23_f1 : Cfg.foff ⟨Try.prog, own, verT, wr⟩ 23 1 = some (1, 2) := by kernel_rfl
theorem t23_f2 : Cfg.foff ⟨Try.prog, own, verT, wr⟩ 23 2 = some (2, 2) := by kernel_rfl
theorem t24_csz : Cfg.csz ⟨Try.prog, own, verT, wr⟩ 24 = some 3 := by kernel_rfl
theorem t24_bts : Cfg.bts ⟨Try.prog, own, verT, wr⟩ 24 = some 24 := by kernel_rfl
theorem t24_ag : Cfg.isAg ⟨Try.prog, own, verT, wr⟩ 24 = some true := by kernel_rfl
theorem t24_str : Cfg.isStr ⟨Try.prog, own, verT, wr⟩ 24 = false := by kernel_rfl
theorem t24_elem : Cfg.elemT ⟨Try.prog, own, verT, wr⟩ 24 = none := by kernel_rfl
theorem t24_zok : Cfg.zerOK ⟨Try.prog, own, verT, wr⟩ 24 = true := by kernel_rfl
theorem t24_zer : Cfg.zer ⟨Try.prog, own, verT, wr⟩ 24 = some [.v (.int .i64 0), .v (.int .i64 0), .v (.int .i64 0)] := by kernel_rfl
theorem t24_some : (Try.prog.underlying 24).isSome = true := by kernel_rfl
theorem t24_flds : Cfg.flds ⟨Try.prog, own, verT, wr⟩ 24 = some [(0, 1), (1, 1), (2, 1)] := by kernel_rfl
theorem t24_f0 : Cfg.foff ⟨Try.prog, own, verT, wr⟩ 24 0 = some (0, 2) := by kernel_rfl
theorem t24_f1 : Cfg.foff ⟨Try.prog, own, verT, wr⟩ 24 1 = some (1, 2) := by kernel_rfl
theorem t24_f2 : Cfg.foff ⟨Try.prog, own, verT, wr⟩ 24 2 = some (2, 2) := by kernel_rfl
theorem t26_csz : Cfg.csz ⟨Try.prog, own, verT, wr⟩ 26 = some 3 := by kernel_rfl
theorem t26_bts : Cfg.bts ⟨Try.prog, own, verT, wr⟩ 26 = some 24 := by kernel_rfl
theorem t26_ag : Cfg.isAg ⟨Try.prog, own, verT, wr⟩ 26 = some true := by kernel_rfl
theorem t26_str : Cfg.isStr ⟨Try.prog, own, verT, wr⟩ 26 = false := by kernel_rfl
theorem t26_elem : Cfg.elemT ⟨Try.prog, own, verT, wr⟩ 26 = none := by kernel_rfl
theorem t26_zok : Cfg.zerOK ⟨Try.prog, own, verT, wr⟩ 26 = true := by kernel_rfl
theorem t26_zer : Cfg.zer ⟨Try.prog, own, verT, wr⟩ 26 = some [.v (.int .i64 0), .v (.int .i64 0), .v (.int .i64 0)] := by kernel_rfl
theorem t26_some : (Try.prog.underlying 26).isSome = true := by kernel_rfl
theorem t26_flds : Cfg.flds ⟨Try.prog, own, verT, wr⟩ 26 = some [(0, 1), (1, 1), (2, 1)] := by kernel_rfl
theorem t26_f0 : Cfg.foff ⟨Try.prog, own, verT, wr⟩ 26 0 = some (0, 2) := by kernel_rfl
theorem t26_f1 : Cfg.foff ⟨Try.prog, own, verT, wr⟩ 26 1 = some (1, 2) := by kernel_rfl
theorem t26_f2 : Cfg.foff ⟨Try.prog, own, verT, wr⟩ 26 2 = some (2, 2) := by kernel_rfl
theorem t31_csz : Cfg.csz ⟨Try.prog, own, verT, wr⟩ 31 = some 7 := by kernel_rfl
theorem t31_bts : Cfg.bts ⟨Try.prog, own, verT, wr⟩ 31 = some 64 := by kernel_rfl
theorem t31_ag : Cfg.isAg ⟨Try.prog, own, verT, wr⟩ 31 = some true := by kernel_rfl
theorem t31_str : Cfg.isStr ⟨Try.prog, own, verT, wr⟩ 31 = false := by kernel_rfl
theorem t31_elem : Cfg.elemT ⟨Try.prog, own, verT, wr⟩ 31 = none := by kernel_rfl
theorem t31_zok : Cfg.zerOK ⟨Try.prog, own, verT, wr⟩ 31 = true := by kernel_rfl
theorem t31_zer : Cfg.zer ⟨Try.prog, own, verT, wr⟩ 31 = some [.v (.string ByteArray.empty), .v (.int .i64 0), .v (.int .i64 0), .v (.int .i64 0), .v (.int .i64 0), .v (.int .i64 0), .v (.int .i64 0)] := by kernel_rfl
theorem t31_some : (Try.prog.underlying 31).isSome = true := by kernel_rfl
theorem t31_flds : Cfg.flds ⟨Try.prog, own, verT, wr⟩ 31 = some [(0, 1), (1, 3), (4, 3)] := by kernel_rfl
theorem t31_f0 : Cfg.foff ⟨Try.prog, own, verT, wr⟩ 31 0 = some (0, 9) := by kernel_rfl
theorem t31_f1 : Cfg.foff ⟨Try.prog, own, verT, wr⟩ 31 1 = some (1, 26) := by kernel_rfl
theorem t31_f2 : Cfg.foff ⟨Try.prog, own, verT, wr⟩ 31 2 = some (4, 26) := by kernel_rfl
theorem t32_csz : Cfg.csz ⟨Try.prog, own, verT, wr⟩ 32 = some 7 := by kernel_rfl
theorem t32_bts : Cfg.bts ⟨Try.prog, own, verT, wr⟩ 32 = some 64 := by kernel_rfl
theorem t32_ag : Cfg.isAg ⟨Try.prog, own, verT, wr⟩ 32 = some true := by kernel_rfl
theorem t32_str : Cfg.isStr ⟨Try.prog, own, verT, wr⟩ 32 = false := by kernel_rfl
theorem t32_elem : Cfg.elemT ⟨Try.prog, own, verT, wr⟩ 32 = none := by kernel_rfl
theorem t32_zok : Cfg.zerOK ⟨Try.prog, own, verT, wr⟩ 32 = true := by kernel_rfl
theorem t32_zer : Cfg.zer ⟨Try.prog, own, verT, wr⟩ 32 = some [.v (.string ByteArray.empty), .v (.int .i64 0), .v (.int .i64 0), .v (.int .i64 0), .v (.int .i64 0), .v (.int .i64 0), .v (.int .i64 0)] := by kernel_rfl
theorem t32_some : (Try.prog.underlying 32).isSome = true := by kernel_rfl
theorem t32_flds : Cfg.flds ⟨Try.prog, own, verT, wr⟩ 32 = some [(0, 1), (1, 3), (4, 3)] := by kernel_rfl
theorem t32_f0 : Cfg.foff ⟨Try.prog, own, verT, wr⟩ 32 0 = some (0, 9) := by kernel_rfl
theorem t32_f1 : Cfg.foff ⟨Try.prog, own, verT, wr⟩ 32 1 = some (1, 26) := by kernel_rfl
theorem t32_f2 : Cfg.foff ⟨Try.prog, own, verT, wr⟩ 32 2 = some (4, 26) := by kernel_rfl
theorem t35_csz : Cfg.csz ⟨Try.prog, own, verT, wr⟩ 35 = some 1 := by kernel_rfl
theorem t35_bts : Cfg.bts ⟨Try.prog, own, verT, wr⟩ 35 = some 24 := by kernel_rfl
theorem t35_ag : Cfg.isAg ⟨Try.prog, own, verT, wr⟩ 35 = some false := by kernel_rfl
theorem t35_str : Cfg.isStr ⟨Try.prog, own, verT, wr⟩ 35 = false := by kernel_rfl
theorem t35_elem : Cfg.elemT ⟨Try.prog, own, verT, wr⟩ 35 = some 5 := by kernel_rfl
theorem t35_zok : Cfg.zerOK ⟨Try.prog, own, verT, wr⟩ 35 = true := by kernel_rfl
theorem t35_zer : Cfg.zer ⟨Try.prog, own, verT, wr⟩ 35 = some [.nil] := by kernel_rfl
theorem t35_some : (Try.prog.underlying 35).isSome = true := by kernel_rfl
theorem t42_csz : Cfg.csz ⟨Try.prog, own, verT, wr⟩ 42 = some 7 := by kernel_rfl
theorem t42_bts : Cfg.bts ⟨Try.prog, own, verT, wr⟩ 42 = some 64 := by kernel_rfl
theorem t42_ag : Cfg.isAg ⟨Try.prog, own, verT, wr⟩ 42 = some true := by kernel_rfl
theorem t42_str : Cfg.isStr ⟨Try.prog, own, verT, wr⟩ 42 = false := by kernel_rfl
theorem t42_elem : Cfg.elemT ⟨Try.prog, own, verT, wr⟩ 42 = none := by kernel_rfl
theorem t42_zok : Cfg.zerOK ⟨Try.prog, own, verT, wr⟩ 42 = true := by kernel_rfl
theorem t42_zer : Cfg.zer ⟨Try.prog, own, verT, wr⟩ 42 = some [.v (.string ByteArray.empty), .v (.int .i64 0), .v (.int .i64 0), .v (.int .i64 0), .v (.int .i64 0), .v (.int .i64 0), .v (.int .i64 0)] := by kernel_rfl
theorem t42_some : (Try.prog.underlying 42).isSome = true := by kernel_rfl
theorem t42_flds : Cfg.flds ⟨Try.prog, own, verT, wr⟩ 42 = some [(0, 1), (1, 3), (4, 3)] := by kernel_rfl
theorem t42_f0 : Cfg.foff ⟨Try.prog, own, verT, wr⟩ 42 0 = some (0, 9) := by kernel_rfl
theorem t42_f1 : Cfg.foff ⟨Try.prog, own, verT, wr⟩ 42 1 = some (1, 24) := by kernel_rfl
theorem t42_f2 : Cfg.foff ⟨Try.prog, own, verT, wr⟩ 42 2 = some (4, 24) := by kernel_rfl
theorem t43_csz : Cfg.csz ⟨Try.prog, own, verT, wr⟩ 43 = some 7 := by kernel_rfl
theorem t43_bts : Cfg.bts ⟨Try.prog, own, verT, wr⟩ 43 = some 64 := by kernel_rfl
theorem t43_ag : Cfg.isAg ⟨Try.prog, own, verT, wr⟩ 43 = some true := by kernel_rfl
theorem t43_str : Cfg.isStr ⟨Try.prog, own, verT, wr⟩ 43 = false := by kernel_rfl
theorem t43_elem : Cfg.elemT ⟨Try.prog, own, verT, wr⟩ 43 = none := by kernel_rfl
theorem t43_zok : Cfg.zerOK ⟨Try.prog, own, verT, wr⟩ 43 = true := by kernel_rfl
theorem t43_zer : Cfg.zer ⟨Try.prog, own, verT, wr⟩ 43 = some [.v (.string ByteArray.empty), .v (.int .i64 0), .v (.int .i64 0), .v (.int .i64 0), .v (.int .i64 0), .v (.int .i64 0), .v (.int .i64 0)] := by kernel_rfl
theorem t43_some : (Try.prog.underlying 43).isSome = true := by kernel_rfl
theorem t43_flds : Cfg.flds ⟨Try.prog, own, verT, wr⟩ 43 = some [(0, 1), (1, 3), (4, 3)] := by kernel_rfl
theorem t43_f0 : Cfg.foff ⟨Try.prog, own, verT, wr⟩ 43 0 = some (0, 9) := by kernel_rfl
theorem t43_f1 : Cfg.foff ⟨Try.prog, own, verT, wr⟩ 43 1 = some (1, 24) := by kernel_rfl
theorem t43_f2 : Cfg.foff ⟨Try.prog, own, verT, wr⟩ 43 2 = some (4, 24) := by kernel_rfl
theorem t50_csz : Cfg.csz ⟨Try.prog, own, verT, wr⟩ 50 = some 8 := by kernel_rfl
theorem t50_bts : Cfg.bts ⟨Try.prog, own, verT, wr⟩ 50 = some 72 := by kernel_rfl
theorem t50_ag : Cfg.isAg ⟨Try.prog, own, verT, wr⟩ 50 = some true := by kernel_rfl
theorem t50_str : Cfg.isStr ⟨Try.prog, own, verT, wr⟩ 50 = false := by kernel_rfl
theorem t50_elem : Cfg.elemT ⟨Try.prog, own, verT, wr⟩ 50 = none := by kernel_rfl
theorem t50_zok : Cfg.zerOK ⟨Try.prog, own, verT, wr⟩ 50 = true := by kernel_rfl
theorem t50_zer : Cfg.zer ⟨Try.prog, own, verT, wr⟩ 50 = some [.v (.int .i64 0), .v (.string ByteArray.empty), .v (.int .i64 0), .v (.int .i64 0), .v (.int .i64 0), .v (.int .i64 0), .v (.int .i64 0), .v (.int .i64 0)] := by kernel_rfl
theorem t50_some : (Try.prog.underlying 50).isSome = true := by kernel_rfl
theorem t50_flds : Cfg.flds ⟨Try.prog, own, verT, wr⟩ 50 = some [(0, 1), (1, 7)] := by kernel_rfl
theorem t50_f0 : Cfg.foff ⟨Try.prog, own, verT, wr⟩ 50 0 = some (0, 2) := by kernel_rfl
theorem t50_f1 : Cfg.foff ⟨Try.prog, own, verT, wr⟩ 50 1 = some (1, 32) := by kernel_rfl
theorem t51_csz : Cfg.csz ⟨Try.prog, own, verT, wr⟩ 51 = some 8 := by kernel_rfl
theorem t51_bts : Cfg.bts ⟨Try.prog, own, verT, wr⟩ 51 = some 72 := by kernel_rfl
theorem t51_ag : Cfg.isAg ⟨Try.prog, own, verT, wr⟩ 51 = some true := by kernel_rfl
theorem t51_str : Cfg.isStr ⟨Try.prog, own, verT, wr⟩ 51 = false := by kernel_rfl
theorem t51_elem : Cfg.elemT ⟨Try.prog, own, verT, wr⟩ 51 = none := by kernel_rfl
theorem t51_zok : Cfg.zerOK ⟨Try.prog, own, verT, wr⟩ 51 = true := by kernel_rfl
theorem t51_zer : Cfg.zer ⟨Try.prog, own, verT, wr⟩ 51 = some [.v (.int .i64 0), .v (.string ByteArray.empty), .v (.int .i64 0), .v (.int .i64 0), .v (.int .i64 0), .v (.int .i64 0), .v (.int .i64 0), .v (.int .i64 0)] := by kernel_rfl
theorem t51_some : (Try.prog.underlying 51).isSome = true := by kernel_rfl
theorem t51_flds : Cfg.flds ⟨Try.prog, own, verT, wr⟩ 51 = some [(0, 1), (1, 7)] := by kernel_rfl
theorem t51_f0 : Cfg.foff ⟨Try.prog, own, verT, wr⟩ 51 0 = some (0, 2) := by kernel_rfl
theorem t51_f1 : Cfg.foff ⟨Try.prog, own, verT, wr⟩ 51 1 = some (1, 32) := by kernel_rfl
theorem t62_csz : Cfg.csz ⟨Try.prog, own, verT, wr⟩ 62 = some 1 := by kernel_rfl
theorem t62_bts : Cfg.bts ⟨Try.prog, own, verT, wr⟩ 62 = some 24 := by kernel_rfl
theorem t62_ag : Cfg.isAg ⟨Try.prog, own, verT, wr⟩ 62 = some false := by kernel_rfl
theorem t62_str : Cfg.isStr ⟨Try.prog, own, verT, wr⟩ 62 = false := by kernel_rfl
theorem t62_elem : Cfg.elemT ⟨Try.prog, own, verT, wr⟩ 62 = some 32 := by kernel_rfl
theorem t62_zok : Cfg.zerOK ⟨Try.prog, own, verT, wr⟩ 62 = true := by kernel_rfl
theorem t62_zer : Cfg.zer ⟨Try.prog, own, verT, wr⟩ 62 = some [.nil] := by kernel_rfl
theorem t62_some : (Try.prog.underlying 62).isSome = true := by kernel_rfl
theorem t65_csz : Cfg.csz ⟨Try.prog, own, verT, wr⟩ 65 = some 1 := by kernel_rfl
theorem t65_bts : Cfg.bts ⟨Try.prog, own, verT, wr⟩ 65 = some 24 := by kernel_rfl
theorem t65_ag : Cfg.isAg ⟨Try.prog, own, verT, wr⟩ 65 = some false := by kernel_rfl
theorem t65_str : Cfg.isStr ⟨Try.prog, own, verT, wr⟩ 65 = false := by kernel_rfl
theorem t65_elem : Cfg.elemT ⟨Try.prog, own, verT, wr⟩ 65 = some 3 := by kernel_rfl
theorem t65_zok : Cfg.zerOK ⟨Try.prog, own, verT, wr⟩ 65 = true := by kernel_rfl
theorem t65_zer : Cfg.zer ⟨Try.prog, own, verT, wr⟩ 65 = some [.nil] := by kernel_rfl
theorem t65_some : (Try.prog.underlying 65).isSome = true := by kernel_rfl
end
attribute [simp] t2_csz t2_bts t2_ag t2_str t2_int t2_elem t2_zok t2_zer t2_some t3_csz t3_bts t3_ag t3_str t3_int t3_elem t3_zok t3_zer t3_some t4_csz t4_bts t4_ag t4_str t4_bool t4_elem t4_zok t4_zer t4_some t5_csz t5_bts t5_ag t5_str t5_int t5_elem t5_zok t5_zer t5_some t6_csz t6_bts t6_ag t6_str
attribute [simp] t6_int t6_elem t6_zok t6_zer t6_some t7_csz t7_bts t7_ag t7_str t7_elem t7_zok t7_zer t7_some t7_flds t7_f0 t7_f1 t7_f2 t7_f3 t8_csz t8_bts t8_ag t8_str t8_elem t8_zok t8_zer t8_some t8_flds t8_f0 t8_f1 t8_f2 t8_f3 t9_csz t9_bts t9_ag t9_str t9_elem t9_zok t9_zer t9_some t10_csz
attribute [simp] t10_bts t10_ag t10_str t10_elem t10_zok t10_zer t10_some t11_csz t11_bts t11_ag t11_str t11_elem t11_zok t11_zer t11_some t12_csz t12_bts t12_ag t12_str t12_int t12_elem t12_zok t12_zer t12_some t13_csz t13_bts t13_ag t13_str t13_elem t13_zok t13_zer t13_some t13_flds t13_f0 t13_f1 t14_csz t14_bts t14_ag t14_str t14_elem
attribute [simp] t14_zok t14_zer t14_some t14_flds t14_f0 t14_f1 t21_csz t21_bts t21_ag t21_str t21_int t21_elem t21_zok t21_zer t21_some t23_csz t23_bts t23_ag t23_str t23_elem t23_zok t23_zer t23_some t23_flds t23_f0 t23_f1 t23_f2 t24_csz t24_bts t24_ag t24_str t24_elem t24_zok t24_zer t24_some t24_flds t24_f0 t24_f1 t24_f2 t26_csz
attribute [simp] t26_bts t26_ag t26_str t26_elem t26_zok t26_zer t26_some t26_flds t26_f0 t26_f1 t26_f2 t31_csz t31_bts t31_ag t31_str t31_elem t31_zok t31_zer t31_some t31_flds t31_f0 t31_f1 t31_f2 t32_csz t32_bts t32_ag t32_str t32_elem t32_zok t32_zer t32_some t32_flds t32_f0 t32_f1 t32_f2 t35_csz t35_bts t35_ag t35_str t35_elem
attribute [simp] t35_zok t35_zer t35_some t42_csz t42_bts t42_ag t42_str t42_elem t42_zok t42_zer t42_some t42_flds t42_f0 t42_f1 t42_f2 t43_csz t43_bts t43_ag t43_str t43_elem t43_zok t43_zer t43_some t43_flds t43_f0 t43_f1 t43_f2 t50_csz t50_bts t50_ag t50_str t50_elem t50_zok t50_zer t50_some t50_flds t50_f0 t50_f1 t51_csz t51_bts
attribute [simp] t51_ag t51_str t51_elem t51_zok t51_zer t51_some t51_flds t51_f0 t51_f1 t62_csz t62_bts t62_ag t62_str t62_elem t62_zok t62_zer t62_some t65_csz t65_bts t65_ag t65_str t65_elem t65_zok t65_zer t65_some
end Go.Proofs.Ytldbckbldddaaaa.Am
