/- Facts about the types of the program. No conditions. -/
import Derived.Test.YtokhnmchnfkiiaaProg
import Derived.Test.YtokhnmchnfkiiaaAmS
namespace Go.Proofs.Ytokhnmchnfkiiaa.Am
open Go Go.RowKit Go.Proofs
set_option linter.unusedSimpArgs false
set_option linter.unusedVariables false
section
variable (own verT wr : Nat → Bool) (md : Nat)
theorem t2_csz : Cfg.csz ⟨Try.prog, own, verT, wr, md⟩ 2 = some 1 := by kernel_rfl
theorem t2_bts : Cfg.bts ⟨Try.prog, own, verT, wr, md⟩ 2 = some 8 := by kernel_rfl
theorem t2_ag : Cfg.isAg ⟨Try.prog, own, verT, wr, md⟩ 2 = some false := by kernel_rfl
theorem t2_str : Cfg.isStr ⟨Try.prog, own, verT, wr, md⟩ 2 = false := by kernel_rfl
theorem t2_int : Cfg.intK ⟨Try.prog, own, verT, wr, md⟩ 2 = some .i64 := by kernel_rfl
theorem t2_elem : Cfg.elemT ⟨Try.prog, own, verT, wr, md⟩ 2 = none := by kernel_rfl
theorem t2_zok : Cfg.zerOK ⟨Try.prog, own, verT, wr, md⟩ 2 = true := by kernel_rfl
theorem t2_zer : Cfg.zer ⟨Try.prog, own, verT, wr, md⟩ 2 = some [.v (.int .i64 0)] := by kernel_rfl
theorem t2_some : (Try.prog.underlying 2).isSome = true := by kernel_rfl
theorem t3_csz : Cfg.csz ⟨Try.prog, own, verT, wr, md⟩ 3 = some 1 := by kernel_rfl
theorem t3_bts : Cfg.bts ⟨Try.prog, own, verT, wr, md⟩ 3 = some 8 := by kernel_rfl
theorem t3_ag : Cfg.isAg ⟨Try.prog, own, verT, wr, md⟩ 3 = some false := by kernel_rfl
theorem t3_str : Cfg.isStr ⟨Try.prog, own, verT, wr, md⟩ 3 = false := by kernel_rfl
theorem t3_int : Cfg.intK ⟨Try.prog, own, verT, wr, md⟩ 3 = some .i64 := by kernel_rfl
theorem t3_elem : Cfg.elemT ⟨Try.prog, own, verT, wr, md⟩ 3 = none := by kernel_rfl
theorem t3_zok : Cfg.zerOK ⟨Try.prog, own, verT, wr, md⟩ 3 = true := by kernel_rfl
theorem t3_zer : Cfg.zer ⟨Try.prog, own, verT, wr, md⟩ 3 = some [.v (.int .i64 0)] := by kernel_rfl
theorem t3_some : (Try.prog.underlying 3).isSome = true := by kernel_rfl
theorem t4_csz : Cfg.csz ⟨Try.prog, own, verT, wr, md⟩ 4 = some 1 := by kernel_rfl
theorem t4_bts : Cfg.bts ⟨Try.prog, own, verT, wr, md⟩ 4 = some 1 := by kernel_rfl
theorem t4_ag : Cfg.isAg ⟨Try.prog, own, verT, wr, md⟩ 4 = some false := by kernel_rfl
theorem t4_str : Cfg.isStr ⟨Try.prog, own, verT, wr, md⟩ 4 = false := by kernel_rfl
theorem t4_bool : Cfg.isBool ⟨Try.prog, own, verT, wr, md⟩ 4 = true := by kernel_rfl
theorem t4_elem : Cfg.elemT ⟨Try.prog, own, verT, wr, md⟩ 4 = none := by kernel_rfl
theorem t4_zok : Cfg.zerOK ⟨Try.prog, own, verT, wr, md⟩ 4 = true := by kernel_rfl
theorem t4_zer : Cfg.zer ⟨Try.prog, own, verT, wr, md⟩ 4 = some [.v (.bool false)] := by kernel_rfl
theorem t4_some : (Try.prog.underlying 4).isSome = true := by kernel_rfl
theorem t5_csz : Cfg.csz ⟨Try.prog, own, verT, wr, md⟩ 5 = some 1 := by kernel_rfl
theorem t5_bts : Cfg.bts ⟨Try.prog, own, verT, wr, md⟩ 5 = some 1 := by kernel_rfl
theorem t5_ag : Cfg.isAg ⟨Try.prog, own, verT, wr, md⟩ 5 = some false := by kernel_rfl
theorem t5_str : Cfg.isStr ⟨Try.prog, own, verT, wr, md⟩ 5 = false := by kernel_rfl
theorem t5_int : Cfg.intK ⟨Try.prog, own, verT, wr, md⟩ 5 = some .u8 := by kernel_rfl
theorem t5_elem : Cfg.elemT ⟨Try.prog, own, verT, wr, md⟩ 5 = none := by kernel_rfl
theorem t5_zok : Cfg.zerOK ⟨Try.prog, own, verT, wr, md⟩ 5 = true := by kernel_rfl
theorem t5_zer : Cfg.zer ⟨Try.prog, own, verT, wr, md⟩ 5 = some [.v (.int .u8 0)] := by kernel_rfl
theorem t5_some : (Try.prog.underlying 5).isSome = true := by kernel_rfl
theorem t6_csz : Cfg.csz ⟨Try.prog, own, verT, wr, md⟩ 6 = some 1 := by kernel_rfl
theorem t6_bts : Cfg.bts ⟨Try.prog, own, verT, wr, md⟩ 6 = some 1 := by kernel_rfl
theorem t6_ag : Cfg.isAg ⟨Try.prog, own, verT, wr, md⟩ 6 = some false := by kernel_rfl
theorem t6_str : Cfg.isStr ⟨Try.prog, own, verT, wr, md⟩ 6 = false := by kernel_rfl
theorem t6_int : Cfg.intK ⟨Try.prog, own, verT, wr, md⟩ 6 = some .u8 := by kernel_rfl
theorem t6_elem : Cfg.elemT ⟨Try.prog, own, verT, wr, md⟩ 6 = none := by kernel_rfl
theorem t6_zok : Cfg.zerOK ⟨Try.prog, own, verT, wr, md⟩ 6 = true := by kernel_rfl
theorem t6_zer : Cfg.zer ⟨Try.prog, own, verT, wr, md⟩ 6 = some [.v (.int .u8 0)] := by kernel_rfl
theorem t6_some : (Try.prog.underlying 6).isSome = true := by kernel_rfl
theorem t7_csz : Cfg.csz ⟨Try.prog, own, verT, wr, md⟩ 7 = some 4 := by kernel_rfl
theorem t7_bts : Cfg.bts ⟨Try.prog, own, verT, wr, md⟩ 7 = some 24 := by kernel_rfl
theorem t7_ag : Cfg.isAg ⟨Try.prog, own, verT, wr, md⟩ 7 = some true := by kernel_rfl
theorem t7_str : Cfg.isStr ⟨Try.prog, own, verT, wr, md⟩ 7 = false := by kernel_rfl
theorem t7_elem : Cfg.elemT ⟨Try.prog, own, verT, wr, md⟩ 7 = none := by kernel_rfl
theorem t7_zok : Cfg.zerOK ⟨Try.prog, own, verT, wr, md⟩ 7 = true := by kernel_rfl
theorem t7_zer : Cfg.zer ⟨Try.prog, own, verT, wr, md⟩ 7 = some [.v (.int .i64 0), .v (.int .i64 0), .v (.bool false), .v (.int .u8 0)] := by kernel_rfl
theorem t7_some : (Try.prog.underlying 7).isSome = true := by kernel_rfl
theorem t7_flds : Cfg.flds ⟨Try.prog, own, verT, wr, md⟩ 7 = some [(0, 1), (1, 1), (2, 1), (3, 1)] := by kernel_rfl
theorem t7_f0 : Cfg.foff ⟨Try.prog, own, verT, wr, md⟩ 7 0 = some (0, 2) := by kernel_rfl
theorem t7_f1 : Cfg.foff ⟨Try.prog, own, verT, wr, md⟩ 7 1 = some (1, 3) := by kernel_rfl
theorem t7_f2 : Cfg.foff ⟨Try.prog, own, verT, wr, md⟩ 7 2 = some (2, 4) := by kernel_rfl
theorem t7_f3 : Cfg.foff ⟨Try.prog, own, verT, wr, md⟩ 7 3 = some (3, 6) := by kernel_rfl
theorem t8_csz : Cfg.csz ⟨Try.prog, own, verT, wr, md⟩ 8 = some 4 := by kernel_rfl
theorem t8_bts : Cfg.bts ⟨Try.prog, own, verT, wr, md⟩ 8 = some 24 := by kernel_rfl
theorem t8_ag : Cfg.isAg ⟨Try.prog, own, verT, wr, md⟩ 8 = some true := by kernel_rfl
theorem t8_str : Cfg.isStr ⟨Try.prog, own, verT, wr, md⟩ 8 = false := by kernel_rfl
theorem t8_elem : Cfg.elemT ⟨Try.prog, own, verT, wr, md⟩ 8 = none := by kernel_rfl
theorem t8_zok : Cfg.zerOK ⟨Try.prog, own, verT, wr, md⟩ 8 = true := by kernel_rfl
theorem t8_zer : Cfg.zer ⟨Try.prog, own, verT, wr, md⟩ 8 = some [.v (.int .i64 0), .v (.int .i64 0), .v (.bool false), .v (.int .u8 0)] := by kernel_rfl
theorem t8_some : (Try.prog.underlying 8).isSome = true := by kernel_rfl
theorem t8_flds : Cfg.flds ⟨Try.prog, own, verT, wr, md⟩ 8 = some [(0, 1), (1, 1), (2, 1), (3, 1)] := by kernel_rfl
theorem t8_f0 : Cfg.foff ⟨Try.prog, own, verT, wr, md⟩ 8 0 = some (0, 2) := by kernel_rfl
theorem t8_f1 : Cfg.foff ⟨Try.prog, own, verT, wr, md⟩ 8 1 = some (1, 3) := by kernel_rfl
theorem t8_f2 : Cfg.foff ⟨Try.prog, own, verT, wr, md⟩ 8 2 = some (2, 4) := by kernel_rfl
theorem t8_f3 : Cfg.foff ⟨Try.prog, own, verT, wr, md⟩ 8 3 = some (3, 6) := by kernel_rfl
theorem t9_csz : Cfg.csz ⟨Try.prog, own, verT, wr, md⟩ 9 = some 1 := by kernel_rfl
theorem t9_bts : Cfg.bts ⟨Try.prog, own, verT, wr, md⟩ 9 = some 16 := by kernel_rfl
theorem t9_ag : Cfg.isAg ⟨Try.prog, own, verT, wr, md⟩ 9 = some false := by kernel_rfl
theorem t9_str : Cfg.isStr ⟨Try.prog, own, verT, wr, md⟩ 9 = true := by kernel_rfl
theorem t9_elem : Cfg.elemT ⟨Try.prog, own, verT, wr, md⟩ 9 = none := by kernel_rfl
theorem t9_zok : Cfg.zerOK ⟨Try.prog, own, verT, wr, md⟩ 9 = true := by kernel_rfl
theorem t9_zer : Cfg.zer ⟨Try.prog, own, verT, wr, md⟩ 9 = some [.v (.string ByteArray.empty)] := by kernel_rfl
theorem t9_some : (Try.prog.underlying 9).isSome = true := by kernel_rfl
theorem t10_csz : Cfg.csz ⟨Try.prog, own, verT, wr, md⟩ 10 = some 1 := by kernel_rfl
theorem t10_bts : Cfg.bts ⟨Try.prog, own, verT, wr, md⟩ 10 = some 16 := by kernel_rfl
theorem t10_ag : Cfg.isAg ⟨Try.prog, own, verT, wr, md⟩ 10 = some false := by kernel_rfl
theorem t10_str : Cfg.isStr ⟨Try.prog, own, verT, wr, md⟩ 10 = true := by kernel_rfl
theorem t10_elem : Cfg.elemT ⟨Try.prog, own, verT, wr, md⟩ 10 = none := by kernel_rfl
theorem t10_zok : Cfg.zerOK ⟨Try.prog, own, verT, wr, md⟩ 10 = true := by kernel_rfl
theorem t10_zer : Cfg.zer ⟨Try.prog, own, verT, wr, md⟩ 10 = some [.v (.string ByteArray.empty)] := by kernel_rfl
theorem t10_some : (Try.prog.underlying 10).isSome = true := by kernel_rfl
theorem t11_csz : Cfg.csz ⟨Try.prog, own, verT, wr, md⟩ 11 = some 1 := by kernel_rfl
theorem t11_bts : Cfg.bts ⟨Try.prog, own, verT, wr, md⟩ 11 = some 16 := by kernel_rfl
theorem t11_ag : Cfg.isAg ⟨Try.prog, own, verT, wr, md⟩ 11 = some false := by kernel_rfl
theorem t11_str : Cfg.isStr ⟨Try.prog, own, verT, wr, md⟩ 11 = true := by kernel_rfl
theorem t11_elem : Cfg.elemT ⟨Try.prog, own, verT, wr, md⟩ 11 = none := by kernel_rfl
theorem t11_zok : Cfg.zerOK ⟨Try.prog, own, verT, wr, md⟩ 11 = true := by kernel_rfl
theorem t11_zer : Cfg.zer ⟨Try.prog, own, verT, wr, md⟩ 11 = some [.v (.string ByteArray.empty)] := by kernel_rfl
theorem t11_some : (Try.prog.underlying 11).isSome = true := by kernel_rfl
theorem t12_csz : Cfg.csz ⟨Try.prog, own, verT, wr, md⟩ 12 = some 1 := by kernel_rfl
theorem t12_bts : Cfg.bts ⟨Try.prog, own, verT, wr, md⟩ 12 = some 8 := by kernel_rfl
theorem t12_ag : Cfg.isAg ⟨Try.prog, own, verT, wr, md⟩ 12 = some false := by kernel_rfl
theorem t12_str : Cfg.isStr ⟨Try.prog, own, verT, wr, md⟩ 12 = false := by kernel_rfl
theorem t12_int : Cfg.intK ⟨Try.prog, own, verT, wr, md⟩ 12 = some .u64 := by kernel_rfl
theorem t12_elem : Cfg.elemT ⟨Try.prog, own, verT, wr, md⟩ 12 = none := by kernel_rfl
theorem t12_zok : Cfg.zerOK ⟨Try.prog, own, verT, wr, md⟩ 12 = true := by kernel_rfl
theorem t12_zer : Cfg.zer ⟨Try.prog, own, verT, wr, md⟩ 12 = some [.v (.int .u64 0)] := by kernel_rfl
theorem t12_some : (Try.prog.underlying 12).isSome = true := by kernel_rfl
theorem t13_csz : Cfg.csz ⟨Try.prog, own, verT, wr, md⟩ 13 = some 2 := by kernel_rfl
theorem t13_bts : Cfg.bts ⟨Try.prog, own, verT, wr, md⟩ 13 = some 24 := by kernel_rfl
theorem t13_ag : Cfg.isAg ⟨Try.prog, own, verT, wr, md⟩ 13 = some true := by kernel_rfl
theorem t13_str : Cfg.isStr ⟨Try.prog, own, verT, wr, md⟩ 13 = false := by kernel_rfl
theorem t13_elem : Cfg.elemT ⟨Try.prog, own, verT, wr, md⟩ 13 = none := by kernel_rfl
theorem t13_zok : Cfg.zerOK ⟨Try.prog, own, verT, wr, md⟩ 13 = true := by kernel_rfl
theorem t13_zer : Cfg.zer ⟨Try.prog, own, verT, wr, md⟩ 13 = some [.v (.string ByteArray.empty), .v (.int .u64 0)] := by kernel_rfl
theorem t13_some : (Try.prog.underlying 13).isSome = true := by kernel_rfl
theorem t13_flds : Cfg.flds ⟨Try.prog, own, verT, wr, md⟩ 13 = some [(0, 1), (1, 1)] := by kernel_rfl
theorem t13_f0 : Cfg.foff ⟨Try.prog, own, verT, wr, md⟩ 13 0 = some (0, 9) := by kernel_rfl
theorem t13_f1 : Cfg.foff ⟨Try.prog, own, verT, wr, md⟩ 13 1 = some (1, 12) := by kernel_rfl
theorem t14_csz : Cfg.csz ⟨Try.prog, own, verT, wr, md⟩ 14 = some 2 := by kernel_rfl
theorem t14_bts : Cfg.bts ⟨Try.prog, own, verT, wr, md⟩ 14 = some 24 := by kernel_rfl
theorem t14_ag : Cfg.isAg ⟨Try.prog, own, verT, wr, md⟩ 14 = some true := by kernel_rfl
theorem t14_str : Cfg.isStr ⟨Try.prog, own, verT, wr, md⟩ 14 = false := by kernel_rfl
theorem t14_elem : Cfg.elemT ⟨Try.prog, own, verT, wr, md⟩ 14 = none := by kernel_rfl
theorem t14_zok : Cfg.zerOK ⟨Try.prog, own, verT, wr, md⟩ 14 = true := by kernel_rfl
theorem t14_zer : Cfg.zer ⟨Try.prog, own, verT, wr, md⟩ 14 = some [.v (.string ByteArray.empty), .v (.int .u64 0)] := by kernel_rfl
theorem t14_some : (Try.prog.underlying 14).isSome = true := by kernel_rfl
theorem t14_flds : Cfg.flds ⟨Try.prog, own, verT, wr, md⟩ 14 = some [(0, 1), (1, 1)] := by kernel_rfl
theorem t14_f0 : Cfg.foff ⟨Try.prog, own, verT, wr, md⟩ 14 0 = some (0, 9) := by kernel_rfl
theorem t14_f1 : Cfg.foff ⟨Try.prog, own, verT, wr, md⟩ 14 1 = some (1, 12) := by kernel_rfl
theorem t21_csz : Cfg.csz ⟨Try.prog, own, verT, wr, md⟩ 21 = some 1 := by kernel_rfl
theorem t21_bts : Cfg.bts ⟨Try.prog, own, verT, wr, md⟩ 21 = some 4 := by kernel_rfl
theorem t21_ag : Cfg.isAg ⟨Try.prog, own, verT, wr, md⟩ 21 = some false := by kernel_rfl
theorem t21_str : Cfg.isStr ⟨Try.prog, own, verT, wr, md⟩ 21 = false := by kernel_rfl
theorem t21_int : Cfg.intK ⟨Try.prog, own, verT, wr, md⟩ 21 = some .i32 := by kernel_rfl
theorem t21_elem : Cfg.elemT ⟨Try.prog, own, verT, wr, md⟩ 21 = none := by kernel_rfl
theorem t21_zok : Cfg.zerOK ⟨Try.prog, own, verT, wr, md⟩ 21 = true := by kernel_rfl
theorem t21_zer : Cfg.zer ⟨Try.prog, own, verT, wr, md⟩ 21 = some [.v (.int .i32 0)] := by kernel_rfl
theorem t21_some : (Try.prog.underlying 21).isSome = true := by kernel_rfl
theorem t22_csz : Cfg.csz ⟨Try.prog, own, verT, wr, md⟩ 22 = some 1 := by kernel_rfl
theorem t22_bts : Cfg.bts ⟨Try.prog, own, verT, wr, md⟩ 22 = some 24 := by kernel_rfl
theorem t22_ag : Cfg.isAg ⟨Try.prog, own, verT, wr, md⟩ 22 = some false := by kernel_rfl
theorem t22_str : Cfg.isStr ⟨Try.prog, own, verT, wr, md⟩ 22 = false := by kernel_rfl
theorem t22_elem : Cfg.elemT ⟨Try.prog, own, verT, wr, md⟩ 22 = some 5 := by kernel_rfl
theorem t22_zok : Cfg.zerOK ⟨Try.prog, own, verT, wr, md⟩ 22 = true := by kernel_rfl
theorem t22_zer : Cfg.zer ⟨Try.prog, own, verT, wr, md⟩ 22 = some [.nil] := by kernel_rfl
theorem t22_some : (Try.prog.underlying 22).isSome = true := by kernel_rfl
theorem t24_csz : Cfg.csz ⟨Try.prog, own, verT, wr, md⟩ 24 = some 1 := by kernel_rfl
theorem t24_bts : Cfg.bts ⟨Try.prog, own, verT, wr, md⟩ 24 = some 24 := by kernel_rfl
theorem t24_ag : Cfg.isAg ⟨Try.prog, own, verT, wr, md⟩ 24 = some false := by kernel_rfl
theorem t24_str : Cfg.isStr ⟨Try.prog, own, verT, wr, md⟩ 24 = false := by kernel_rfl
theorem t24_elem : Cfg.elemT ⟨Try.prog, own, verT, wr, md⟩ 24 = some 38 := by kernel_rfl
theorem t24_zok : Cfg.zerOK ⟨Try.prog, own, verT, wr, md⟩ 24 = true := by kernel_rfl
theorem t24_zer : Cfg.zer ⟨Try.prog, own, verT, wr, md⟩ 24 = some [.nil] := by kernel_rfl
theorem t24_some : (Try.prog.underlying 24).isSome = true := by kernel_rfl
theorem t25_csz : Cfg.csz ⟨Try.prog, own, verT, wr, md⟩ 25 = some 3 := by kernel_rfl
theorem t25_bts : Cfg.bts ⟨Try.prog, own, verT, wr, md⟩ 25 = some 24 := by kernel_rfl
theorem t25_ag : Cfg.isAg ⟨Try.prog, own, verT, wr, md⟩ 25 = some true := by kernel_rfl
theorem t25_str : Cfg.isStr ⟨Try.prog, own, verT, wr, md⟩ 25 = false := by kernel_rfl
theorem t25_elem : Cfg.elemT ⟨Try.prog, own, verT, wr, md⟩ 25 = none := by kernel_rfl
theorem t25_zok : Cfg.zerOK ⟨Try.prog, own, verT, wr, md⟩ 25 = true := by kernel_rfl
theorem t25_zer : Cfg.zer ⟨Try.prog, own, verT, wr, md⟩ 25 = some [.v (.int .i64 0), .v (.int .i64 0), .v (.int .i64 0)] := by kernel_rfl
theorem t25_some : (Try.prog.underlying 25).isSome = true := by kernel_rfl
theorem t25_flds : Cfg.flds ⟨Try.prog, own, verT, wr, md⟩ 25 = some [(0, 1), (1, 1), (2, 1)] := by kernel_rfl
theorem t25_f0 : Cfg.foff ⟨Try.prog, own, verT, wr, md⟩ 25 0 = some (0, 2) := by kernel_rfl
theorem t25_f1 : Cfg.foff ⟨Try.prog, own, verT, wr, md⟩ 25 1 = some (1, 2) := by kernel_rfl
theorem t25_f2 : Cfg.foff ⟨Try.prog, own, verT, wr, md⟩ 25 2 = some (2, 2) := by kernel_rfl
theorem t26_csz : Cfg.csz ⟨Try.prog, own, verT, wr, md⟩ 26 = some 3 := by kernel_rfl
theorem t26_bts : Cfg.bts ⟨Try.prog, own, verT, wr, md⟩ 26 = some 24 := by kernel_rfl
theorem t26_ag : Cfg.isAg ⟨Try.prog, own, verT, wr, md⟩ 26 = some true := by kernel_rfl
theorem t26_str : Cfg.isStr ⟨Try.prog, own, verT, wr, md⟩ 26 = false := by kernel_rfl
theorem t26_elem : Cfg.elemT ⟨Try.prog, own, verT, wr, md⟩ 26 = none := by kernel_rfl
theorem t26_zok : Cfg.zerOK ⟨Try.prog, own, verT, wr, md⟩ 26 = true := by kernel_rfl
theorem t26_zer : Cfg.zer ⟨Try.prog, own, verT, wr, md⟩ 26 = some [.v (.int .i64 0), .v (.int .i64 0), .v (.int .i64 0)] := by kernel_rfl
theorem t26_some : (Try.prog.underlying 26).isSome = true := by kernel_rfl
theorem t26_flds : Cfg.flds ⟨Try.prog, own, verT, wr, md⟩ 26 = some [(0, 1), (1, 1), (2, 1)] := by kernel_rfl
theorem t26_f0 : Cfg.foff ⟨Try.prog, own, verT, wr, md⟩ 26 0 = some (0, 2) := by kernel_rfl
theorem t26_f1 : Cfg.foff ⟨Try.prog, own, verT, wr, md⟩ 26 1 = some (1, 2) := by kernel_rfl
theorem t26_f2 : Cfg.foff ⟨Try.prog, own, verT, wr, md⟩ 26 2 = some (2, 2) := by kernel_rfl
theorem t27_csz : Cfg.csz ⟨Try.prog, own, verT, wr, md⟩ 27 = some 7 := by kernel_rfl
theorem t27_bts : Cfg.bts ⟨Try.prog, own, verT, wr, md⟩ 27 = some 64 := by kernel_rfl
theorem t27_ag : Cfg.isAg ⟨Try.prog, own, verT, wr, md⟩ 27 = some true := by kernel_rfl
theorem t27_str : Cfg.isStr ⟨Try.prog, own, verT, wr, md⟩ 27 = false := by kernel_rfl
theorem t27_elem : Cfg.elemT ⟨Try.prog, own, verT, wr, md⟩ 27 = none := by kernel_rfl
theorem t27_zok : Cfg.zerOK ⟨Try.prog, own, verT, wr, md⟩ 27 = true := by kernel_rfl
theorem t27_zer : Cfg.zer ⟨Try.prog, own, verT, wr, md⟩ 27 = some [.v (.string ByteArray.empty), .v (.int .i64 0), .v (.int .i64 0), .v (.int .i64 0), .v (.int .i64 0), .v (.int .i64 0), .v (.int .i64 0)] := by kernel_rfl
theorem t27_some : (Try.prog.underlying 27).isSome = true := by kernel_rfl
theorem t27_flds : Cfg.flds ⟨Try.prog, own, verT, wr, md⟩ 27 = some [(0, 1), (1, 3), (4, 3)] := by kernel_rfl
theorem t27_f0 : Cfg.foff ⟨Try.prog, own, verT, wr, md⟩ 27 0 = some (0, 9) := by kernel_rfl
theorem t27_f1 : Cfg.foff ⟨Try.prog, own, verT, wr, md⟩ 27 1 = some (1, 26) := by kernel_rfl
theorem t27_f2 : Cfg.foff ⟨Try.prog, own, verT, wr, md⟩ 27 2 = some (4, 26) := by kernel_rfl
theorem t28_csz : Cfg.csz ⟨Try.prog, own, verT, wr, md⟩ 28 = some 7 := by kernel_rfl
theorem t28_bts : Cfg.bts ⟨Try.prog, own, verT, wr, md⟩ 28 = some 64 := by kernel_rfl
theorem t28_ag : Cfg.isAg ⟨Try.prog, own, verT, wr, md⟩ 28 = some true := by kernel_rfl
theorem t28_str : Cfg.isStr ⟨Try.prog, own, verT, wr, md⟩ 28 = false := by kernel_rfl
theorem t28_elem : Cfg.elemT ⟨Try.prog, own, verT, wr, md⟩ 28 = none := by kernel_rfl
theorem t28_zok : Cfg.zerOK ⟨Try.prog, own, verT, wr, md⟩ 28 = true := by kernel_rfl
theorem t28_zer : Cfg.zer ⟨Try.prog, own, verT, wr, md⟩ 28 = some [.v (.string ByteArray.empty), .v (.int .i64 0), .v (.int .i64 0), .v (.int .i64 0), .v (.int .i64 0), .v (.int .i64 0), .v (.int .i64 0)] := by kernel_rfl
theorem t28_some : (Try.prog.underlying 28).isSome = true := by kernel_rfl
theorem t28_flds : Cfg.flds ⟨Try.prog, own, verT, wr, md⟩ 28 = some [(0, 1), (1, 3), (4, 3)] := by kernel_rfl
theorem t28_f0 : Cfg.foff ⟨Try.prog, own, verT, wr, md⟩ 28 0 = some (0, 9) := by kernel_rfl
theorem t28_f1 : Cfg.foff ⟨Try.prog, own, verT, wr, md⟩ 28 1 = some (1, 26) := by kernel_rfl
theorem t28_f2 : Cfg.foff ⟨Try.prog, own, verT, wr, md⟩ 28 2 = some (4, 26) := by kernel_rfl
theorem t31_csz : Cfg.csz ⟨Try.prog, own, verT, wr, md⟩ 31 = some 2 := by kernel_rfl
theorem t31_bts : Cfg.bts ⟨Try.prog, own, verT, wr, md⟩ 31 = some 16 := by kernel_rfl
theorem t31_ag : Cfg.isAg ⟨Try.prog, own, verT, wr, md⟩ 31 = some true := by kernel_rfl
theorem t31_str : Cfg.isStr ⟨Try.prog, own, verT, wr, md⟩ 31 = false := by kernel_rfl
theorem t31_elem : Cfg.elemT ⟨Try.prog, own, verT, wr, md⟩ 31 = none := by kernel_rfl
theorem t31_zok : Cfg.zerOK ⟨Try.prog, own, verT, wr, md⟩ 31 = true := by kernel_rfl
theorem t31_zer : Cfg.zer ⟨Try.prog, own, verT, wr, md⟩ 31 = some [.v (.int .i64 0), .v (.int .i64 0)] := by kernel_rfl
theorem t31_some : (Try.prog.underlying 31).isSome = true := by kernel_rfl
theorem t31_flds : Cfg.flds ⟨Try.prog, own, verT, wr, md⟩ 31 = some [(0, 1), (1, 1)] := by kernel_rfl
theorem t31_f0 : Cfg.foff ⟨Try.prog, own, verT, wr, md⟩ 31 0 = some (0, 2) := by kernel_rfl
theorem t31_f1 : Cfg.foff ⟨Try.prog, own, verT, wr, md⟩ 31 1 = some (1, 2) := by kernel_rfl
theorem t32_csz : Cfg.csz ⟨Try.prog, own, verT, wr, md⟩ 32 = some 2 := by kernel_rfl
theorem t32_bts : Cfg.bts ⟨Try.prog, own, verT, wr, md⟩ 32 = some 16 := by kernel_rfl
theorem t32_ag : Cfg.isAg ⟨Try.prog, own, verT, wr, md⟩ 32 = some true := by kernel_rfl
theorem t32_str : Cfg.isStr ⟨Try.prog, own, verT, wr, md⟩ 32 = false := by kernel_rfl
theorem t32_elem : Cfg.elemT ⟨Try.prog, own, verT, wr, md⟩ 32 = none := by kernel_rfl
theorem t32_zok : Cfg.zerOK ⟨Try.prog, own, verT, wr, md⟩ 32 = true := by kernel_rfl
theorem t32_zer : Cfg.zer ⟨Try.prog, own, verT, wr, md⟩ 32 = some [.v (.int .i64 0), .v (.int .i64 0)] := by kernel_rfl
theorem t32_some : (Try.prog.underlying 32).isSome = true := by kernel_rfl
theorem t32_flds : Cfg.flds ⟨Try.prog, own, verT, wr, md⟩ 32 = some [(0, 1), (1, 1)] := by kernel_rfl
theorem t32_f0 : Cfg.foff ⟨Try.prog, own, verT, wr, md⟩ 32 0 = some (0, 2) := by kernel_rfl
theorem t32_f1 : Cfg.foff ⟨Try.prog, own, verT, wr, md⟩ 32 1 = some (1, 2) := by kernel_rfl
theorem t34_csz : Cfg.csz ⟨Try.prog, own, verT, wr, md⟩ 34 = some 1 := by kernel_rfl
theorem t34_bts : Cfg.bts ⟨Try.prog, own, verT, wr, md⟩ 34 = some 24 := by kernel_rfl
theorem t34_ag : Cfg.isAg ⟨Try.prog, own, verT, wr, md⟩ 34 = some false := by kernel_rfl
theorem t34_str : Cfg.isStr ⟨Try.prog, own, verT, wr, md⟩ 34 = false := by kernel_rfl
theorem t34_elem : Cfg.elemT ⟨Try.prog, own, verT, wr, md⟩ 34 = some 9 := by kernel_rfl
theorem t34_zok : Cfg.zerOK ⟨Try.prog, own, verT, wr, md⟩ 34 = true := by kernel_rfl
theorem t34_zer : Cfg.zer ⟨Try.prog, own, verT, wr, md⟩ 34 = some [.nil] := by kernel_rfl
theorem t34_some : (Try.prog.underlying 34).isSome = true := by kernel_rfl
theorem t35_csz : Cfg.csz ⟨Try.prog, own, verT, wr, md⟩ 35 = some 1 := by kernel_rfl
theorem t35_bts : Cfg.bts ⟨Try.prog, own, verT, wr, md⟩ 35 = some 24 := by kernel_rfl
theorem t35_ag : Cfg.isAg ⟨Try.prog, own, verT, wr, md⟩ 35 = some false := by kernel_rfl
theorem t35_str : Cfg.isStr ⟨Try.prog, own, verT, wr, md⟩ 35 = false := by kernel_rfl
theorem t35_elem : Cfg.elemT ⟨Try.prog, own, verT, wr, md⟩ 35 = some 36 := by kernel_rfl
theorem t35_zok : Cfg.zerOK ⟨Try.prog, own, verT, wr, md⟩ 35 = true := by kernel_rfl
theorem t35_zer : Cfg.zer ⟨Try.prog, own, verT, wr, md⟩ 35 = some [.nil] := by kernel_rfl
theorem t35_some : (Try.prog.underlying 35).isSome = true := by kernel_rfl
theorem t36_csz : Cfg.csz ⟨Try.prog, own, verT, wr, md⟩ 36 = some 1 := by kernel_rfl
theorem t36_bts : Cfg.bts ⟨Try.prog, own, verT, wr, md⟩ 36 = some 24 := by kernel_rfl
theorem t36_ag : Cfg.isAg ⟨Try.prog, own, verT, wr, md⟩ 36 = some false := by kernel_rfl
theorem t36_str : Cfg.isStr ⟨Try.prog, own, verT, wr, md⟩ 36 = false := by kernel_rfl
theorem t36_elem : Cfg.elemT ⟨Try.prog, own, verT, wr, md⟩ 36 = some 28 := by kernel_rfl
theorem t36_zok : Cfg.zerOK ⟨Try.prog, own, verT, wr, md⟩ 36 = true := by kernel_rfl
theorem t36_zer : Cfg.zer ⟨Try.prog, own, verT, wr, md⟩ 36 = some [.nil] := by kernel_rfl
theorem t36_some : (Try.prog.underlying 36).isSome = true := by kernel_rfl
theorem t37_csz : Cfg.csz ⟨Try.prog, own, verT, wr, md⟩ 37 = some 8 := by kernel_rfl
theorem t37_bts : Cfg.bts ⟨Try.prog, own, verT, wr, md⟩ 37 = some 120 := by kernel_rfl
theorem t37_ag : Cfg.isAg ⟨Try.prog, own, verT, wr, md⟩ 37 = some true := by kernel_rfl
theorem t37_str : Cfg.isStr ⟨Try.prog, own, verT, wr, md⟩ 37 = false := by kernel_rfl
theorem t37_elem : Cfg.elemT ⟨Try.prog, own, verT, wr, md⟩ 37 = none := by kernel_rfl
theorem t37_zok : Cfg.zerOK ⟨Try.prog, own, verT, wr, md⟩ 37 = true := by kernel_rfl
theorem t37_zer : Cfg.zer ⟨Try.prog, own, verT, wr, md⟩ 37 = some [.v (.string ByteArray.empty), .v (.int .i64 0), .v (.int .i64 0), .v (.int .i64 0), .v (.int .i64 0), .nil, .nil, .nil] := by kernel_rfl
theorem t37_some : (Try.prog.underlying 37).isSome = true := by kernel_rfl
theorem t37_flds : Cfg.flds ⟨Try.prog, own, verT, wr, md⟩ 37 = some [(0, 1), (1, 3), (4, 1), (5, 1), (6, 1), (7, 1)] := by kernel_rfl
theorem t37_f0 : Cfg.foff ⟨Try.prog, own, verT, wr, md⟩ 37 0 = some (0, 9) := by kernel_rfl
theorem t37_f1 : Cfg.foff ⟨Try.prog, own, verT, wr, md⟩ 37 1 = some (1, 26) := by kernel_rfl
theorem t37_f2 : Cfg.foff ⟨Try.prog, own, verT, wr, md⟩ 37 2 = some (4, 2) := by kernel_rfl
theorem t37_f3 : Cfg.foff ⟨Try.prog, own, verT, wr, md⟩ 37 3 = some (5, 34) := by kernel_rfl
theorem t37_f4 : Cfg.foff ⟨Try.prog, own, verT, wr, md⟩ 37 4 = some (6, 35) := by kernel_rfl
theorem t37_f5 : Cfg.foff ⟨Try.prog, own, verT, wr, md⟩ 37 5 = some (7, 36) := by kernel_rfl
theorem t38_csz : Cfg.csz ⟨Try.prog, own, verT, wr, md⟩ 38 = some 8 := by kernel_rfl
theorem t38_bts : Cfg.bts ⟨Try.prog, own, verT, wr, md⟩ 38 = some 120 := by kernel_rfl
theorem t38_ag : Cfg.isAg ⟨Try.prog, own, verT, wr, md⟩ 38 = some true := by kernel_rfl
theorem t38_str : Cfg.isStr ⟨Try.prog, own, verT, wr, md⟩ 38 = false := by kernel_rfl
theorem t38_elem : Cfg.elemT ⟨Try.prog, own, verT, wr, md⟩ 38 = none := by kernel_rfl
theorem t38_zok : Cfg.zerOK ⟨Try.prog, own, verT, wr, md⟩ 38 = true := by kernel_rfl
theorem t38_zer : Cfg.zer ⟨Try.prog, own, verT, wr, md⟩ 38 = some [.v (.string ByteArray.empty), .v (.int .i64 0), .v (.int .i64 0), .v (.int .i64 0), .v (.int .i64 0), .nil, .nil, .nil] := by kernel_rfl
theorem t38_some : (Try.prog.underlying 38).isSome = true := by kernel_rfl
theorem t38_flds : Cfg.flds ⟨Try.prog, own, verT, wr, md⟩ 38 = some [(0, 1), (1, 3), (4, 1), (5, 1), (6, 1), (7, 1)] := by kernel_rfl
theorem t38_f0 : Cfg.foff ⟨Try.prog, own, verT, wr, md⟩ 38 0 = some (0, 9) := by kernel_rfl
theorem t38_f1 : Cfg.foff ⟨Try.prog, own, verT, wr, md⟩ 38 1 = some (1, 26) := by kernel_rfl
theorem t38_f2 : Cfg.foff ⟨Try.prog, own, verT, wr, md⟩ 38 2 = some (4, 2) := by kernel_rfl
theorem t38_f3 : Cfg.foff ⟨Try.prog, own, verT, wr, md⟩ 38 3 = some (5, 34) := by kernel_rfl
theorem t38_f4 : Cfg.foff ⟨Try.prog, own, verT, wr, md⟩ 38 4 = some (6, 35) := by kernel_rfl
theorem t38_f5 : Cfg.foff ⟨Try.prog, own, verT, wr, md⟩ 38 5 = some (7, 36) := by kernel_rfl
theorem t41_csz : Cfg.csz ⟨Try.prog, own, verT, wr, md⟩ 41 = some 2 := by kernel_rfl
theorem t41_bts : Cfg.bts ⟨Try.prog, own, verT, wr, md⟩ 41 = some 32 := by kernel_rfl
theorem t41_ag : Cfg.isAg ⟨Try.prog, own, verT, wr, md⟩ 41 = some true := by kernel_rfl
theorem t41_str : Cfg.isStr ⟨Try.prog, own, verT, wr, md⟩ 41 = false := by kernel_rfl
theorem t41_elem : Cfg.elemT ⟨Try.prog, own, verT, wr, md⟩ 41 = none := by kernel_rfl
theorem t41_zok : Cfg.zerOK ⟨Try.prog, own, verT, wr, md⟩ 41 = true := by kernel_rfl
theorem t41_zer : Cfg.zer ⟨Try.prog, own, verT, wr, md⟩ 41 = some [.v (.int .i64 0), .nil] := by kernel_rfl
theorem t41_some : (Try.prog.underlying 41).isSome = true := by kernel_rfl
theorem t41_flds : Cfg.flds ⟨Try.prog, own, verT, wr, md⟩ 41 = some [(0, 1), (1, 1)] := by kernel_rfl
theorem t41_f0 : Cfg.foff ⟨Try.prog, own, verT, wr, md⟩ 41 0 = some (0, 2) := by kernel_rfl
theorem t41_f1 : Cfg.foff ⟨Try.prog, own, verT, wr, md⟩ 41 1 = some (1, 22) := by kernel_rfl
theorem t42_csz : Cfg.csz ⟨Try.prog, own, verT, wr, md⟩ 42 = some 2 := by kernel_rfl
theorem t42_bts : Cfg.bts ⟨Try.prog, own, verT, wr, md⟩ 42 = some 32 := by kernel_rfl
theorem t42_ag : Cfg.isAg ⟨Try.prog, own, verT, wr, md⟩ 42 = some true := by kernel_rfl
theorem t42_str : Cfg.isStr ⟨Try.prog, own, verT, wr, md⟩ 42 = false := by kernel_rfl
theorem t42_elem : Cfg.elemT ⟨Try.prog, own, verT, wr, md⟩ 42 = none := by kernel_rfl
theorem t42_zok : Cfg.zerOK ⟨Try.prog, own, verT, wr, md⟩ 42 = true := by kernel_rfl
theorem t42_zer : Cfg.zer ⟨Try.prog, own, verT, wr, md⟩ 42 = some [.v (.int .i64 0), .nil] := by kernel_rfl
theorem t42_some : (Try.prog.underlying 42).isSome = true := by kernel_rfl
theorem t42_flds : Cfg.flds ⟨Try.prog, own, verT, wr, md⟩ 42 = some [(0, 1), (1, 1)] := by kernel_rfl
theorem t42_f0 : Cfg.foff ⟨Try.prog, own, verT, wr, md⟩ 42 0 = some (0, 2) := by kernel_rfl
theorem t42_f1 : Cfg.foff ⟨Try.prog, own, verT, wr, md⟩ 42 1 = some (1, 22) := by kernel_rfl
theorem t45_csz : Cfg.csz ⟨Try.prog, own, verT, wr, md⟩ 45 = some 3 := by kernel_rfl
theorem t45_bts : Cfg.bts ⟨Try.prog, own, verT, wr, md⟩ 45 = some 24 := by kernel_rfl
theorem t45_ag : Cfg.isAg ⟨Try.prog, own, verT, wr, md⟩ 45 = some true := by kernel_rfl
theorem t45_str : Cfg.isStr ⟨Try.prog, own, verT, wr, md⟩ 45 = false := by kernel_rfl
theorem t45_elem : Cfg.elemT ⟨Try.prog, own, verT, wr, md⟩ 45 = none := by kernel_rfl
theorem t45_zok : Cfg.zerOK ⟨Try.prog, own, verT, wr, md⟩ 45 = true := by kernel_rfl
theorem t45_zer : Cfg.zer ⟨Try.prog, own, verT, wr, md⟩ 45 = some [.v (.int .i64 0), .v (.int .i64 0), .v (.int .i64 0)] := by kernel_rfl
theorem t45_some : (Try.prog.underlying 45).isSome = true := by kernel_rfl
theorem t45_flds : Cfg.flds ⟨Try.prog, own, verT, wr, md⟩ 45 = some [(0, 1), (1, 1), (2, 1)] := by kernel_rfl
theorem t45_f0 : Cfg.foff ⟨Try.prog, own, verT, wr, md⟩ 45 0 = some (0, 2) := by kernel_rfl
theorem t45_f1 : Cfg.foff ⟨Try.prog, own, verT, wr, md⟩ 45 1 = some (1, 2) := by kernel_rfl
theorem t45_f2 : Cfg.foff ⟨Try.prog, own, verT, wr, md⟩ 45 2 = some (2, 2) := by kernel_rfl
theorem t46_csz : Cfg.csz ⟨Try.prog, own, verT, wr, md⟩ 46 = some 1 := by kernel_rfl
theorem t46_bts : Cfg.bts ⟨Try.prog, own, verT, wr, md⟩ 46 = some 24 := by kernel_rfl
theorem t46_ag : Cfg.isAg ⟨Try.prog, own, verT, wr, md⟩ 46 = some false := by kernel_rfl
theorem t46_str : Cfg.isStr ⟨Try.prog, own, verT, wr, md⟩ 46 = false := by kernel_rfl
theorem t46_elem : Cfg.elemT ⟨Try.prog, own, verT, wr, md⟩ 46 = some 47 := by kernel_rfl
theorem t46_zok : Cfg.zerOK ⟨Try.prog, own, verT, wr, md⟩ 46 = true := by kernel_rfl
theorem t46_zer : Cfg.zer ⟨Try.prog, own, verT, wr, md⟩ 46 = some [.nil] := by kernel_rfl
theorem t46_some : (Try.prog.underlying 46).isSome = true := by kernel_rfl
theorem t47_csz : Cfg.csz ⟨Try.prog, own, verT, wr, md⟩ 47 = some 1 := by kernel_rfl
theorem t47_bts : Cfg.bts ⟨Try.prog, own, verT, wr, md⟩ 47 = some 24 := by kernel_rfl
theorem t47_ag : Cfg.isAg ⟨Try.prog, own, verT, wr, md⟩ 47 = some false := by kernel_rfl
theorem t47_str : Cfg.isStr ⟨Try.prog, own, verT, wr, md⟩ 47 = false := by kernel_rfl
theorem t47_elem : Cfg.elemT ⟨Try.prog, own, verT, wr, md⟩ 47 = some 103 := by kernel_rfl
theorem t47_zok : Cfg.zerOK ⟨Try.prog, own, verT, wr, md⟩ 47 = true := by kernel_rfl
theorem t47_zer : Cfg.zer ⟨Try.prog, own, verT, wr, md⟩ 47 = some [.nil] := by kernel_rfl
theorem t47_some : (Try.prog.underlying 47).isSome = true := by kernel_rfl
theorem t48_csz : Cfg.csz ⟨Try.prog, own, verT, wr, md⟩ 48 = some 8 := by kernel_rfl
theorem t48_bts : Cfg.bts ⟨Try.prog, own, verT, wr, md⟩ 48 = some 120 := by kernel_rfl
theorem t48_ag : Cfg.isAg ⟨Try.prog, own, verT, wr, md⟩ 48 = some true := by kernel_rfl
theorem t48_str : Cfg.isStr ⟨Try.prog, own, verT, wr, md⟩ 48 = false := by kernel_rfl
theorem t48_elem : Cfg.elemT ⟨Try.prog, own, verT, wr, md⟩ 48 = none := by kernel_rfl
theorem t48_zok : Cfg.zerOK ⟨Try.prog, own, verT, wr, md⟩ 48 = true := by kernel_rfl
theorem t48_zer : Cfg.zer ⟨Try.prog, own, verT, wr, md⟩ 48 = some [.v (.string ByteArray.empty), .v (.int .i64 0), .v (.int .i64 0), .v (.int .i64 0), .v (.int .i64 0), .nil, .nil, .nil] := by kernel_rfl
theorem t48_some : (Try.prog.underlying 48).isSome = true := by kernel_rfl
theorem t48_flds : Cfg.flds ⟨Try.prog, own, verT, wr, md⟩ 48 = some [(0, 1), (1, 3), (4, 1), (5, 1), (6, 1), (7, 1)] := by kernel_rfl
theorem t48_f0 : Cfg.foff ⟨Try.prog, own, verT, wr, md⟩ 48 0 = some (0, 9) := by kernel_rfl
theorem t48_f1 : Cfg.foff ⟨Try.prog, own, verT, wr, md⟩ 48 1 = some (1, 45) := by kernel_rfl
theorem t48_f2 : Cfg.foff ⟨Try.prog, own, verT, wr, md⟩ 48 2 = some (4, 2) := by kernel_rfl
theorem t48_f3 : Cfg.foff ⟨Try.prog, own, verT, wr, md⟩ 48 3 = some (5, 34) := by kernel_rfl
theorem t48_f4 : Cfg.foff ⟨Try.prog, own, verT, wr, md⟩ 48 4 = some (6, 46) := by kernel_rfl
theorem t48_f5 : Cfg.foff ⟨Try.prog, own, verT, wr, md⟩ 48 5 = some (7, 47) := by kernel_rfl
theorem t49_csz : Cfg.csz ⟨Try.prog, own, verT, wr, md⟩ 49 = some 8 := by kernel_rfl
theorem t49_bts : Cfg.bts ⟨Try.prog, own, verT, wr, md⟩ 49 = some 120 := by kernel_rfl
theorem t49_ag : Cfg.isAg ⟨Try.prog, own, verT, wr, md⟩ 49 = some true := by kernel_rfl
theorem t49_str : Cfg.isStr ⟨Try.prog, own, verT, wr, md⟩ 49 = false := by kernel_rfl
theorem t49_elem : Cfg.elemT ⟨Try.prog, own, verT, wr, md⟩ 49 = none := by kernel_rfl
theorem t49_zok : Cfg.zerOK ⟨Try.prog, own, verT, wr, md⟩ 49 = true := by kernel_rfl
theorem t49_zer : Cfg.zer ⟨Try.prog, own, verT, wr, md⟩ 49 = some [.v (.string ByteArray.empty), .v (.int .i64 0), .v (.int .i64 0), .v (.int .i64 0), .v (.int .i64 0), .nil, .nil, .nil] := by kernel_rfl
theorem t49_some : (Try.prog.underlying 49).isSome = true := by kernel_rfl
theorem t49_flds : Cfg.flds ⟨Try.prog, own, verT, wr, md⟩ 49 = some [(0, 1), (1, 3), (4, 1), (5, 1), (6, 1), (7, 1)] := by kernel_rfl
theorem t49_f0 : Cfg.foff ⟨Try.prog, own, verT, wr, md⟩ 49 0 = some (0, 9) := by kernel_rfl
theorem t49_f1 : Cfg.foff ⟨Try.prog, own, verT, wr, md⟩ 49 1 = some (1, 45) := by kernel_rfl
theorem t49_f2 : Cfg.foff ⟨Try.prog, own, verT, wr, md⟩ 49 2 = some (4, 2) := by kernel_rfl
theorem t49_f3 : Cfg.foff ⟨Try.prog, own, verT, wr, md⟩ 49 3 = some (5, 34) := by kernel_rfl
theorem t49_f4 : Cfg.foff ⟨Try.prog, own, verT, wr, md⟩ 49 4 = some (6, 46) := by kernel_rfl
theorem t49_f5 : Cfg.foff ⟨Try.prog, own, verT, wr, md⟩ 49 5 = some (7, 47) := by kernel_rfl
theorem t57_csz : Cfg.csz ⟨Try.prog, own, verT, wr, md⟩ 57 = some 1 := by kernel_rfl
theorem t57_bts : Cfg.bts ⟨Try.prog, own, verT, wr, md⟩ 57 = some 24 := by kernel_rfl
theorem t57_ag : Cfg.isAg ⟨Try.prog, own, verT, wr, md⟩ 57 = some false := by kernel_rfl
theorem t57_str : Cfg.isStr ⟨Try.prog, own, verT, wr, md⟩ 57 = false := by kernel_rfl
theorem t57_elem : Cfg.elemT ⟨Try.prog, own, verT, wr, md⟩ 57 = some 49 := by kernel_rfl
theorem t57_zok : Cfg.zerOK ⟨Try.prog, own, verT, wr, md⟩ 57 = true := by kernel_rfl
theorem t57_zer : Cfg.zer ⟨Try.prog, own, verT, wr, md⟩ 57 = some [.nil] := by kernel_rfl
theorem t57_some : (Try.prog.underlying 57).isSome = true := by kernel_rfl
theorem t58_csz : Cfg.csz ⟨Try.prog, own, verT, wr, md⟩ 58 = some 1 := by kernel_rfl
theorem t58_bts : Cfg.bts ⟨Try.prog, own, verT, wr, md⟩ 58 = some 24 := by kernel_rfl
theorem t58_ag : Cfg.isAg ⟨Try.prog, own, verT, wr, md⟩ 58 = some false := by kernel_rfl
theorem t58_str : Cfg.isStr ⟨Try.prog, own, verT, wr, md⟩ 58 = false := by kernel_rfl
theorem t58_elem : Cfg.elemT ⟨Try.prog, own, verT, wr, md⟩ 58 = some 2 := by kernel_rfl
theorem t58_zok : Cfg.zerOK ⟨Try.prog, own, verT, wr, md⟩ 58 = true := by kernel_rfl
theorem t58_zer : Cfg.zer ⟨Try.prog, own, verT, wr, md⟩ 58 = some [.nil] := by kernel_rfl
theorem t58_some : (Try.prog.underlying 58).isSome = true := by kernel_rfl
theorem t72_csz : Cfg.csz ⟨Try.prog, own, verT, wr, md⟩ 72 = some 2 := by kernel_rfl
theorem t72_bts : Cfg.bts ⟨Try.prog, own, verT, wr, md⟩ 72 = some 32 := by kernel_rfl
theorem t72_ag : Cfg.isAg ⟨Try.prog, own, verT, wr, md⟩ 72 = some true := by kernel_rfl
theorem t72_str : Cfg.isStr ⟨Try.prog, own, verT, wr, md⟩ 72 = false := by kernel_rfl
theorem t72_elem : Cfg.elemT ⟨Try.prog, own, verT, wr, md⟩ 72 = none := by kernel_rfl
theorem t72_zok : Cfg.zerOK ⟨Try.prog, own, verT, wr, md⟩ 72 = true := by kernel_rfl
theorem t72_zer : Cfg.zer ⟨Try.prog, own, verT, wr, md⟩ 72 = some [.v (.int .i64 0), .nil] := by kernel_rfl
theorem t72_some : (Try.prog.underlying 72).isSome = true := by kernel_rfl
theorem t72_flds : Cfg.flds ⟨Try.prog, own, verT, wr, md⟩ 72 = some [(0, 1), (1, 1)] := by kernel_rfl
theorem t72_f0 : Cfg.foff ⟨Try.prog, own, verT, wr, md⟩ 72 0 = some (0, 2) := by kernel_rfl
theorem t72_f1 : Cfg.foff ⟨Try.prog, own, verT, wr, md⟩ 72 1 = some (1, 34) := by kernel_rfl
theorem t73_csz : Cfg.csz ⟨Try.prog, own, verT, wr, md⟩ 73 = some 2 := by kernel_rfl
theorem t73_bts : Cfg.bts ⟨Try.prog, own, verT, wr, md⟩ 73 = some 32 := by kernel_rfl
theorem t73_ag : Cfg.isAg ⟨Try.prog, own, verT, wr, md⟩ 73 = some true := by kernel_rfl
theorem t73_str : Cfg.isStr ⟨Try.prog, own, verT, wr, md⟩ 73 = false := by kernel_rfl
theorem t73_elem : Cfg.elemT ⟨Try.prog, own, verT, wr, md⟩ 73 = none := by kernel_rfl
theorem t73_zok : Cfg.zerOK ⟨Try.prog, own, verT, wr, md⟩ 73 = true := by kernel_rfl
theorem t73_zer : Cfg.zer ⟨Try.prog, own, verT, wr, md⟩ 73 = some [.v (.int .i64 0), .nil] := by kernel_rfl
theorem t73_some : (Try.prog.underlying 73).isSome = true := by kernel_rfl
theorem t73_flds : Cfg.flds ⟨Try.prog, own, verT, wr, md⟩ 73 = some [(0, 1), (1, 1)] := by kernel_rfl
theorem t73_f0 : Cfg.foff ⟨Try.prog, own, verT, wr, md⟩ 73 0 = some (0, 2) := by kernel_rfl
theorem t73_f1 : Cfg.foff ⟨Try.prog, own, verT, wr, md⟩ 73 1 = some (1, 34) := by kernel_rfl
theorem t102_csz : Cfg.csz ⟨Try.prog, own, verT, wr, md⟩ 102 = some 7 := by kernel_rfl
theorem t102_bts : Cfg.bts ⟨Try.prog, own, verT, wr, md⟩ 102 = some 64 := by kernel_rfl
theorem t102_ag : Cfg.isAg ⟨Try.prog, own, verT, wr, md⟩ 102 = some true := by kernel_rfl
theorem t102_str : Cfg.isStr ⟨Try.prog, own, verT, wr, md⟩ 102 = false := by kernel_rfl
theorem t102_elem : Cfg.elemT ⟨Try.prog, own, verT, wr, md⟩ 102 = none := by kernel_rfl
theorem t102_zok : Cfg.zerOK ⟨Try.prog, own, verT, wr, md⟩ 102 = true := by kernel_rfl
theorem t102_zer : Cfg.zer ⟨Try.prog, own, verT, wr, md⟩ 102 = some [.v (.string ByteArray.empty), .v (.int .i64 0), .v (.int .i64 0), .v (.int .i64 0), .v (.int .i64 0), .v (.int .i64 0), .v (.int .i64 0)] := by kernel_rfl
theorem t102_some : (Try.prog.underlying 102).isSome = true := by kernel_rfl
theorem t102_flds : Cfg.flds ⟨Try.prog, own, verT, wr, md⟩ 102 = some [(0, 1), (1, 3), (4, 3)] := by kernel_rfl
theorem t102_f0 : Cfg.foff ⟨Try.prog, own, verT, wr, md⟩ 102 0 = some (0, 9) := by kernel_rfl
theorem t102_f1 : Cfg.foff ⟨Try.prog, own, verT, wr, md⟩ 102 1 = some (1, 45) := by kernel_rfl
theorem t102_f2 : Cfg.foff ⟨Try.prog, own, verT, wr, md⟩ 102 2 = some (4, 45) := by kernel_rfl
theorem t103_csz : Cfg.csz ⟨Try.prog, own, verT, wr, md⟩ 103 = some 7 := by kernel_rfl
theorem t103_bts : Cfg.bts ⟨Try.prog, own, verT, wr, md⟩ 103 = some 64 := by kernel_rfl
theorem t103_ag : Cfg.isAg ⟨Try.prog, own, verT, wr, md⟩ 103 = some true := by kernel_rfl
theorem t103_str : Cfg.isStr ⟨Try.prog, own, verT, wr, md⟩ 103 = false := by kernel_rfl
theorem t103_elem : Cfg.elemT ⟨Try.prog, own, verT, wr, md⟩ 103 = none := by kernel_rfl
theorem t103_zok : Cfg.zerOK ⟨Try.prog, own, verT, wr, md⟩ 103 = true := by kernel_rfl
theorem t103_zer : Cfg.zer ⟨Try.prog, own, verT, wr, md⟩ 103 = some [.v (.string ByteArray.empty), .v (.int .i64 0), .v (.int .i64 0), .v (.int .i64 0), .v (.int .i64 0), .v (.int .i64 0), .v (.int .i64 0)] := by kernel_rfl
theorem t103_some : (Try.prog.underlying 103).isSome = true := by kernel_rfl
theorem t103_flds : Cfg.flds ⟨Try.prog, own, verT, wr, md⟩ 103 = some [(0, 1), (1, 3), (4, 3)] := by kernel_rfl
theorem t103_f0 : Cfg.foff ⟨Try.prog, own, verT, wr, md⟩ 103 0 = some (0, 9) := by kernel_rfl
theorem t103_f1 : Cfg.foff ⟨Try.prog, own, verT, wr, md⟩ 103 1 = some (1, 45) := by kernel_rfl
theorem t103_f2 : Cfg.foff ⟨Try.prog, own, verT, wr, md⟩ 103 2 = some (4, 45) := by kernel_rfl
theorem t114_csz : Cfg.csz ⟨Try.prog, own, verT, wr, md⟩ 114 = some 2 := by kernel_rfl
theorem t114_bts : Cfg.bts ⟨Try.prog, own, verT, wr, md⟩ 114 = some 32 := by kernel_rfl
theorem t114_ag : Cfg.isAg ⟨Try.prog, own, verT, wr, md⟩ 114 = some true := by kernel_rfl
theorem t114_str : Cfg.isStr ⟨Try.prog, own, verT, wr, md⟩ 114 = false := by kernel_rfl
theorem t114_elem : Cfg.elemT ⟨Try.prog, own, verT, wr, md⟩ 114 = none := by kernel_rfl
theorem t114_zok : Cfg.zerOK ⟨Try.prog, own, verT, wr, md⟩ 114 = true := by kernel_rfl
theorem t114_zer : Cfg.zer ⟨Try.prog, own, verT, wr, md⟩ 114 = some [.nil, .v (.int .i64 0)] := by kernel_rfl
theorem t114_some : (Try.prog.underlying 114).isSome = true := by kernel_rfl
theorem t114_flds : Cfg.flds ⟨Try.prog, own, verT, wr, md⟩ 114 = some [(0, 1), (1, 1)] := by kernel_rfl
theorem t114_f0 : Cfg.foff ⟨Try.prog, own, verT, wr, md⟩ 114 0 = some (0, 22) := by kernel_rfl
theorem t114_f1 : Cfg.foff ⟨Try.prog, own, verT, wr, md⟩ 114 1 = some (1, 2) := by kernel_rfl
theorem t115_csz : Cfg.csz ⟨Try.prog, own, verT, wr, md⟩ 115 = some 2 := by kernel_rfl
theorem t115_bts : Cfg.bts ⟨Try.prog, own, verT, wr, md⟩ 115 = some 32 := by kernel_rfl
theorem t115_ag : Cfg.isAg ⟨Try.prog, own, verT, wr, md⟩ 115 = some true := by kernel_rfl
theorem t115_str : Cfg.isStr ⟨Try.prog, own, verT, wr, md⟩ 115 = false := by kernel_rfl
theorem t115_elem : Cfg.elemT ⟨Try.prog, own, verT, wr, md⟩ 115 = none := by kernel_rfl
theorem t115_zok : Cfg.zerOK ⟨Try.prog, own, verT, wr, md⟩ 115 = true := by kernel_rfl
theorem t115_zer : Cfg.zer ⟨Try.prog, own, verT, wr, md⟩ 115 = some [.nil, .v (.int .i64 0)] := by kernel_rfl
theorem t115_some : (Try.prog.underlying 115).isSome = true := by kernel_rfl
theorem t115_flds : Cfg.flds ⟨Try.prog, own, verT, wr, md⟩ 115 = some [(0, 1), (1, 1)] := by kernel_rfl
theorem t115_f0 : Cfg.foff ⟨Try.prog, own, verT, wr, md⟩ 115 0 = some (0, 22) := by kernel_rfl
theorem t115_f1 : Cfg.foff ⟨Try.prog, own, verT, wr, md⟩ 115 1 = some (1, 2) := by kernel_rfl
theorem t147_csz : Cfg.csz ⟨Try.prog, own, verT, wr, md⟩ 147 = some 1 := by kernel_rfl
theorem t147_bts : Cfg.bts ⟨Try.prog, own, verT, wr, md⟩ 147 = some 24 := by kernel_rfl
theorem t147_ag : Cfg.isAg ⟨Try.prog, own, verT, wr, md⟩ 147 = some false := by kernel_rfl
theorem t147_str : Cfg.isStr ⟨Try.prog, own, verT, wr, md⟩ 147 = false := by kernel_rfl
theorem t147_elem : Cfg.elemT ⟨Try.prog, own, verT, wr, md⟩ 147 = some 3 := by kernel_rfl
theorem t147_zok : Cfg.zerOK ⟨Try.prog, own, verT, wr, md⟩ 147 = true := by kernel_rfl
theorem t147_zer : Cfg.zer ⟨Try.prog, own, verT, wr, md⟩ 147 = some [.nil] := by kernel_rfl
theorem t147_some : (Try.prog.underlying 147).isSome = true := by kernel_rfl
theorem t158_csz : Cfg.csz ⟨Try.prog, own, verT, wr, md⟩ 158 = some 1 := by kernel_rfl
theorem t158_bts : Cfg.bts ⟨Try.prog, own, verT, wr, md⟩ 158 = some 8 := by kernel_rfl
theorem t158_ag : Cfg.isAg ⟨Try.prog, own, verT, wr, md⟩ 158 = some false := by kernel_rfl
theorem t158_str : Cfg.isStr ⟨Try.prog, own, verT, wr, md⟩ 158 = false := by kernel_rfl
theorem t158_int : Cfg.intK ⟨Try.prog, own, verT, wr, md⟩ 158 = some .u64 := by kernel_rfl
theorem t158_elem : Cfg.elemT ⟨Try.prog, own, verT, wr, md⟩ 158 = none := by kernel_rfl
theorem t158_zok : Cfg.zerOK ⟨Try.prog, own, verT, wr, md⟩ 158 = true := by kernel_rfl
theorem t158_zer : Cfg.zer ⟨Try.prog, own, verT, wr, md⟩ 158 = some [.v (.int .u64 0)] := by kernel_rfl
theorem t158_some : (Try.prog.underlying 158).isSome = true := by kernel_rfl
theorem t160_csz : Cfg.csz ⟨Try.prog, own, verT, wr, md⟩ 160 = some 1 := by kernel_rfl
theorem t160_bts : Cfg.bts ⟨Try.prog, own, verT, wr, md⟩ 160 = some 8 := by kernel_rfl
theorem t160_ag : Cfg.isAg ⟨Try.prog, own, verT, wr, md⟩ 160 = some false := by kernel_rfl
theorem t160_str : Cfg.isStr ⟨Try.prog, own, verT, wr, md⟩ 160 = false := by kernel_rfl
theorem t160_int : Cfg.intK ⟨Try.prog, own, verT, wr, md⟩ 160 = some .i64 := by kernel_rfl
theorem t160_elem : Cfg.elemT ⟨Try.prog, own, verT, wr, md⟩ 160 = none := by kernel_rfl
theorem t160_zok : Cfg.zerOK ⟨Try.prog, own, verT, wr, md⟩ 160 = true := by kernel_rfl
theorem t160_zer : Cfg.zer ⟨Try.prog, own, verT, wr, md⟩ 160 = some [.v (.int .i64 0)] := by kernel_rfl
theorem t160_some : (Try.prog.underlying 160).isSome = true := by kernel_rfl
theorem t169_csz : Cfg.csz ⟨Try.prog, own, verT, wr, md⟩ 169 = some 1 := by kernel_rfl
theorem t169_bts : Cfg.bts ⟨Try.prog, own, verT, wr, md⟩ 169 = some 4 := by kernel_rfl
theorem t169_ag : Cfg.isAg ⟨Try.prog, own, verT, wr, md⟩ 169 = some false := by kernel_rfl
theorem t169_str : Cfg.isStr ⟨Try.prog, own, verT, wr, md⟩ 169 = false := by kernel_rfl
theorem t169_int : Cfg.intK ⟨Try.prog, own, verT, wr, md⟩ 169 = some .u32 := by kernel_rfl
theorem t169_elem : Cfg.elemT ⟨Try.prog, own, verT, wr, md⟩ 169 = none := by kernel_rfl
theorem t169_zok : Cfg.zerOK ⟨Try.prog, own, verT, wr, md⟩ 169 = true := by kernel_rfl
theorem t169_zer : Cfg.zer ⟨Try.prog, own, verT, wr, md⟩ 169 = some [.v (.int .u32 0)] := by kernel_rfl
theorem t169_some : (Try.prog.underlying 169).isSome = true := by kernel_rfl
theorem t171_csz : Cfg.csz ⟨Try.prog, own, verT, wr, md⟩ 171 = some 1 := by kernel_rfl
theorem t171_bts : Cfg.bts ⟨Try.prog, own, verT, wr, md⟩ 171 = some 8 := by kernel_rfl
theorem t171_ag : Cfg.isAg ⟨Try.prog, own, verT, wr, md⟩ 171 = some false := by kernel_rfl
theorem t171_str : Cfg.isStr ⟨Try.prog, own, verT, wr, md⟩ 171 = false := by kernel_rfl
theorem t171_int : Cfg.intK ⟨Try.prog, own, verT, wr, md⟩ 171 = some .u64 := by kernel_rfl
theorem t171_elem : Cfg.elemT ⟨Try.prog, own, verT, wr, md⟩ 171 = none := by kernel_rfl
theorem t171_zok : Cfg.zerOK ⟨Try.prog, own, verT, wr, md⟩ 171 = true := by kernel_rfl
theorem t171_zer : Cfg.zer ⟨Try.prog, own, verT, wr, md⟩ 171 = some [.v (.int .u64 0)] := by kernel_rfl
theorem t171_some : (Try.prog.underlying 171).isSome = true := by kernel_rfl
theorem t172_csz : Cfg.csz ⟨Try.prog, own, verT, wr, md⟩ 172 = some 1 := by kernel_rfl
theorem t172_bts : Cfg.bts ⟨Try.prog, own, verT, wr, md⟩ 172 = some 8 := by kernel_rfl
theorem t172_ag : Cfg.isAg ⟨Try.prog, own, verT, wr, md⟩ 172 = some false := by kernel_rfl
theorem t172_str : Cfg.isStr ⟨Try.prog, own, verT, wr, md⟩ 172 = false := by kernel_rfl
theorem t172_int : Cfg.intK ⟨Try.prog, own, verT, wr, md⟩ 172 = some .u64 := by kernel_rfl
theorem t172_elem : Cfg.elemT ⟨Try.prog, own, verT, wr, md⟩ 172 = none := by kernel_rfl
theorem t172_zok : Cfg.zerOK ⟨Try.prog, own, verT, wr, md⟩ 172 = true := by kernel_rfl
theorem t172_zer : Cfg.zer ⟨Try.prog, own, verT, wr, md⟩ 172 = some [.v (.int .u64 0)] := by kernel_rfl
theorem t172_some : (Try.prog.underlying 172).isSome = true := by kernel_rfl
theorem t188_csz : Cfg.csz ⟨Try.prog, own, verT, wr, md⟩ 188 = some 1 := by kernel_rfl
theorem t188_bts : Cfg.bts ⟨Try.prog, own, verT, wr, md⟩ 188 = some 1 := by kernel_rfl
theorem t188_ag : Cfg.isAg ⟨Try.prog, own, verT, wr, md⟩ 188 = some false := by kernel_rfl
theorem t188_str : Cfg.isStr ⟨Try.prog, own, verT, wr, md⟩ 188 = false := by kernel_rfl
theorem t188_int : Cfg.intK ⟨Try.prog, own, verT, wr, md⟩ 188 = some .u8 := by kernel_rfl
theorem t188_elem : Cfg.elemT ⟨Try.prog, own, verT, wr, md⟩ 188 = none := by kernel_rfl
theorem t188_zok : Cfg.zerOK ⟨Try.prog, own, verT, wr, md⟩ 188 = true := by kernel_rfl
theorem t188_zer : Cfg.zer ⟨Try.prog, own, verT, wr, md⟩ 188 = some [.v (.int .u8 0)] := by kernel_rfl
theorem t188_some : (Try.prog.underlying 188).isSome = true := by kernel_rfl
theorem t189_csz : Cfg.csz ⟨Try.prog, own, verT, wr, md⟩ 189 = some 1 := by kernel_rfl
theorem t189_bts : Cfg.bts ⟨Try.prog, own, verT, wr, md⟩ 189 = some 1 := by kernel_rfl
theorem t189_ag : Cfg.isAg ⟨Try.prog, own, verT, wr, md⟩ 189 = some false := by kernel_rfl
theorem t189_str : Cfg.isStr ⟨Try.prog, own, verT, wr, md⟩ 189 = false := by kernel_rfl
theorem t189_int : Cfg.intK ⟨Try.prog, own, verT, wr, md⟩ 189 = some .u8 := by kernel_rfl
theorem t189_elem : Cfg.elemT ⟨Try.prog, own, verT, wr, md⟩ 189 = none := by kernel_rfl
theorem t189_zok : Cfg.zerOK ⟨Try.prog, own, verT, wr, md⟩ 189 = true := by kernel_rfl
theorem t189_zer : Cfg.zer ⟨Try.prog, own, verT, wr, md⟩ 189 = some [.v (.int .u8 0)] := by kernel_rfl
theorem t189_some : (Try.prog.underlying 189).isSome = true := by kernel_rfl
theorem t192_csz : Cfg.csz ⟨Try.prog, own, verT, wr, md⟩ 192 = some 1 := by kernel_rfl
theorem t192_bts : Cfg.bts ⟨Try.prog, own, verT, wr, md⟩ 192 = some 4 := by kernel_rfl
theorem t192_ag : Cfg.isAg ⟨Try.prog, own, verT, wr, md⟩ 192 = some false := by kernel_rfl
theorem t192_str : Cfg.isStr ⟨Try.prog, own, verT, wr, md⟩ 192 = false := by kernel_rfl
theorem t192_int : Cfg.intK ⟨Try.prog, own, verT, wr, md⟩ 192 = some .i32 := by kernel_rfl
theorem t192_elem : Cfg.elemT ⟨Try.prog, own, verT, wr, md⟩ 192 = none := by kernel_rfl
theorem t192_zok : Cfg.zerOK ⟨Try.prog, own, verT, wr, md⟩ 192 = true := by kernel_rfl
theorem t192_zer : Cfg.zer ⟨Try.prog, own, verT, wr, md⟩ 192 = some [.v (.int .i32 0)] := by kernel_rfl
theorem t192_some : (Try.prog.underlying 192).isSome = true := by kernel_rfl
theorem t193_csz : Cfg.csz ⟨Try.prog, own, verT, wr, md⟩ 193 = some 1 := by kernel_rfl
theorem t193_bts : Cfg.bts ⟨Try.prog, own, verT, wr, md⟩ 193 = some 4 := by kernel_rfl
theorem t193_ag : Cfg.isAg ⟨Try.prog, own, verT, wr, md⟩ 193 = some false := by kernel_rfl
theorem t193_str : Cfg.isStr ⟨Try.prog, own, verT, wr, md⟩ 193 = false := by kernel_rfl
theorem t193_int : Cfg.intK ⟨Try.prog, own, verT, wr, md⟩ 193 = some .i32 := by kernel_rfl
theorem t193_elem : Cfg.elemT ⟨Try.prog, own, verT, wr, md⟩ 193 = none := by kernel_rfl
theorem t193_zok : Cfg.zerOK ⟨Try.prog, own, verT, wr, md⟩ 193 = true := by kernel_rfl
theorem t193_zer : Cfg.zer ⟨Try.prog, own, verT, wr, md⟩ 193 = some [.v (.int .i32 0)] := by kernel_rfl
theorem t193_some : (Try.prog.underlying 193).isSome = true := by kernel_rfl
end
attribute [simp] t2_csz t2_bts t2_ag t2_str t2_int t2_elem t2_zok t2_zer t2_some t3_csz t3_bts t3_ag t3_str t3_int t3_elem t3_zok t3_zer t3_some t4_csz t4_bts t4_ag t4_str t4_bool t4_elem t4_zok t4_zer t4_some t5_csz t5_bts t5_ag t5_str t5_int t5_elem t5_zok t5_zer t5_some t6_csz t6_bts t6_ag t6_str
attribute [simp] t6_int t6_elem t6_zok t6_zer t6_some t7_csz t7_bts t7_ag t7_str t7_elem t7_zok t7_zer t7_some t7_flds t7_f0 t7_f1 t7_f2 t7_f3 t8_csz t8_bts t8_ag t8_str t8_elem t8_zok t8_zer t8_some t8_flds t8_f0 t8_f1 t8_f2 t8_f3 t9_csz t9_bts t9_ag t9_str t9_elem t9_zok t9_zer t9_some t10_csz
attribute [simp] t10_bts t10_ag t10_str t10_elem t10_zok t10_zer t10_some t11_csz t11_bts t11_ag t11_str t11_elem t11_zok t11_zer t11_some t12_csz t12_bts t12_ag t12_str t12_int t12_elem t12_zok t12_zer t12_some t13_csz t13_bts t13_ag t13_str t13_elem t13_zok t13_zer t13_some t13_flds t13_f0 t13_f1 t14_csz t14_bts t14_ag t14_str t14_elem
attribute [simp] t14_zok t14_zer t14_some t14_flds t14_f0 t14_f1 t21_csz t21_bts t21_ag t21_str t21_int t21_elem t21_zok t21_zer t21_some t22_csz t22_bts t22_ag t22_str t22_elem t22_zok t22_zer t22_some t24_csz t24_bts t24_ag t24_str t24_elem t24_zok t24_zer t24_some t25_csz t25_bts t25_ag t25_str t25_elem t25_zok t25_zer t25_some t25_flds
attribute [simp] t25_f0 t25_f1 t25_f2 t26_csz t26_bts t26_ag t26_str t26_elem t26_zok t26_zer t26_some t26_flds t26_f0 t26_f1 t26_f2 t27_csz t27_bts t27_ag t27_str t27_elem t27_zok t27_zer t27_some t27_flds t27_f0 t27_f1 t27_f2 t28_csz t28_bts t28_ag t28_str t28_elem t28_zok t28_zer t28_some t28_flds t28_f0 t28_f1 t28_f2 t31_csz
attribute [simp] t31_bts t31_ag t31_str t31_elem t31_zok t31_zer t31_some t31_flds t31_f0 t31_f1 t32_csz t32_bts t32_ag t32_str t32_elem t32_zok t32_zer t32_some t32_flds t32_f0 t32_f1 t34_csz t34_bts t34_ag t34_str t34_elem t34_zok t34_zer t34_some t35_csz t35_bts t35_ag t35_str t35_elem t35_zok t35_zer t35_some t36_csz t36_bts t36_ag
attribute [simp] t36_str t36_elem t36_zok t36_zer t36_some t37_csz t37_bts t37_ag t37_str t37_elem t37_zok t37_zer t37_some t37_flds t37_f0 t37_f1 t37_f2 t37_f3 t37_f4 t37_f5 t38_csz t38_bts t38_ag t38_str t38_elem t38_zok t38_zer t38_some t38_flds t38_f0 t38_f1 t38_f2 t38_f3 t38_f4 t38_f5 t41_csz t41_bts t41_ag t41_str t41_elem
attribute [simp] t41_zok t41_zer t41_some t41_flds t41_f0 t41_f1 t42_csz t42_bts t42_ag t42_str t42_elem t42_zok t42_zer t42_some t42_flds t42_f0 t42_f1 t45_csz t45_bts t45_ag t45_str t45_elem t45_zok t45_zer t45_some t45_flds t45_f0 t45_f1 t45_f2 t46_csz t46_bts t46_ag t46_str t46_elem t46_zok t46_zer t46_some t47_csz t47_bts t47_ag
attribute [simp] t47_str t47_elem t47_zok t47_zer t47_some t48_csz t48_bts t48_ag t48_str t48_elem t48_zok t48_zer t48_some t48_flds t48_f0 t48_f1 t48_f2 t48_f3 t48_f4 t48_f5 t49_csz t49_bts t49_ag t49_str t49_elem t49_zok t49_zer t49_some t49_flds t49_f0 t49_f1 t49_f2 t49_f3 t49_f4 t49_f5 t57_csz t57_bts t57_ag t57_str t57_elem
attribute [simp] t57_zok t57_zer t57_some t58_csz t58_bts t58_ag t58_str t58_elem t58_zok t58_zer t58_some t72_csz t72_bts t72_ag t72_str t72_elem t72_zok t72_zer t72_some t72_flds t72_f0 t72_f1 t73_csz t73_bts t73_ag t73_str t73_elem t73_zok t73_zer t73_some t73_flds t73_f0 t73_f1 t102_csz t102_bts t102_ag t102_str t102_elem t102_zok t102_zer
attribute [simp] t102_some t102_flds t102_f0 t102_f1 t102_f2 t103_csz t103_bts t103_ag t103_str t103_elem t103_zok t103_zer t103_some t103_flds t103_f0 t103_f1 t103_f2 t114_csz t114_bts t114_ag t114_str t114_elem t114_zok t114_zer t114_some t114_flds t114_f0 t114_f1 t115_csz t115_bts t115_ag t115_str t115_elem t115_zok t115_zer t115_some t115_flds t115_f0 t115_f1 t147_csz
attribute [simp] t147_bts t147_ag t147_str t147_elem t147_zok t147_zer t147_some t158_csz t158_bts t158_ag t158_str t158_int t158_elem t158_zok t158_zer t158_some t160_csz t160_bts t160_ag t160_str t160_int t160_elem t160_zok t160_zer t160_some t169_csz t169_bts t169_ag t169_str t169_int t169_elem t169_zok t169_zer t169_some t171_csz t171_bts t171_ag t171_str t171_int t171_elem
attribute [simp] t171_zok t171_zer t171_some t172_csz t172_bts t172_ag t172_str t172_int t172_elem t172_zok t172_zer t172_some t188_csz t188_bts t188_ag t188_str t188_int t188_elem t188_zok t188_zer t188_some t189_csz t189_bts t189_ag t189_str t189_int t189_elem t189_zok t189_zer t189_some t192_csz t192_bts t192_ag t192_str t192_int t192_elem t192_zok t192_zer t192_some t193_csz
attribute [simp] t193_bts t193_ag t193_str t193_int t193_elem t193_zok t193_zer t193_some
end Go.Proofs.Ytokhnmchnfkiiaa.Am
