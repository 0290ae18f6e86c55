/- Facts about the types of the program. No conditions. -/
import Derived.Test.YtbmfoijakgccgaaProg
import Derived.Test.YtbmfoijakgccgaaAmS
namespace Go.Proofs.Ytbmfoijakgccgaa.Am
open Go Go.RowKit Go.Proofs
set_option linter.unusedSimpArgs false
set_option linter.unusedVariables false
section
variable (own verT wr : Nat → Bool) (md : Nat)
theorem t2_csz : Cfg.csz ⟨Try.prog, own, verT, wr, md⟩ 2 = some 1 := by kernel_rfl
theorem t2_bts : Cfg.bts ⟨Try.prog, own, verT, wr, md⟩ 2 = some 8 := by kernel_rfl
theorem t2_ag : Cfg.isAg ⟨Try.prog, own, verT, wr, md⟩ 2 = some false := by kernel_rfl
theorem t2_str : Cfg.isStr ⟨Try.prog, own, verT, wr, md⟩ 2 = false := by kernel_rfl
theorem t2_int : Cfg.intK ⟨Try.prog, own, verT, wr, md⟩ 2 = some .i64 := by kernel_rfl
theorem t2_elem : Cfg.elemT ⟨Try.prog, own, verT, wr, md⟩ 2 = none := by kernel_rfl
theorem t2_zok : Cfg.zerOK ⟨Try.prog, own, verT, wr, md⟩ 2 = true := by kernel_rfl
theorem t2_zer : Cfg.zer ⟨Try.prog, own, verT, wr, md⟩ 2 = some [.v (.int .i64 0)] := by kernel_rfl
theorem t2_some : (Try.prog.underlying 2).isSome = true := by kernel_rfl
theorem t3_csz : Cfg.csz ⟨Try.prog, own, verT, wr, md⟩ 3 = some 1 := by kernel_rfl
theorem t3_bts : Cfg.bts ⟨Try.prog, own, verT, wr, md⟩ 3 = some 8 := by kernel_rfl
theorem t3_ag : Cfg.isAg ⟨Try.prog, own, verT, wr, md⟩ 3 = some false := by kernel_rfl
theorem t3_str : Cfg.isStr ⟨Try.prog, own, verT, wr, md⟩ 3 = false := by kernel_rfl
theorem t3_int : Cfg.intK ⟨Try.prog, own, verT, wr, md⟩ 3 = some .i64 := by kernel_rfl
theorem t3_elem : Cfg.elemT ⟨Try.prog, own, verT, wr, md⟩ 3 = none := by kernel_rfl
theorem t3_zok : Cfg.zerOK ⟨Try.prog, own, verT, wr, md⟩ 3 = true := by kernel_rfl
theorem t3_zer : Cfg.zer ⟨Try.prog, own, verT, wr, md⟩ 3 = some [.v (.int .i64 0)] := by kernel_rfl
theorem t3_some : (Try.prog.underlying 3).isSome = true := by kernel_rfl
theorem t4_csz : Cfg.csz ⟨Try.prog, own, verT, wr, md⟩ 4 = some 1 := by kernel_rfl
theorem t4_bts : Cfg.bts ⟨Try.prog, own, verT, wr, md⟩ 4 = some 1 := by kernel_rfl
theorem t4_ag : Cfg.isAg ⟨Try.prog, own, verT, wr, md⟩ 4 = some false := by kernel_rfl
theorem t4_str : Cfg.isStr ⟨Try.prog, own, verT, wr, md⟩ 4 = false := by kernel_rfl
theorem t4_bool : Cfg.isBool ⟨Try.prog, own, verT, wr, md⟩ 4 = true := by kernel_rfl
theorem t4_elem : Cfg.elemT ⟨Try.prog, own, verT, wr, md⟩ 4 = none := by kernel_rfl
theorem t4_zok : Cfg.zerOK ⟨Try.prog, own, verT, wr, md⟩ 4 = true := by kernel_rfl
theorem t4_zer : Cfg.zer ⟨Try.prog, own, verT, wr, md⟩ 4 = some [.v (.bool false)] := by kernel_rfl
theorem t4_some : (Try.prog.underlying 4).isSome = true := by kernel_rfl
theorem t5_csz : Cfg.csz ⟨Try.prog, own, verT, wr, md⟩ 5 = some 1 := by kernel_rfl
theorem t5_bts : Cfg.bts ⟨Try.prog, own, verT, wr, md⟩ 5 = some 1 := by kernel_rfl
theorem t5_ag : Cfg.isAg ⟨Try.prog, own, verT, wr, md⟩ 5 = some false := by kernel_rfl
theorem t5_str : Cfg.isStr ⟨Try.prog, own, verT, wr, md⟩ 5 = false := by kernel_rfl
theorem t5_int : Cfg.intK ⟨Try.prog, own, verT, wr, md⟩ 5 = some .u8 := by kernel_rfl
theorem t5_elem : Cfg.elemT ⟨Try.prog, own, verT, wr, md⟩ 5 = none := by kernel_rfl
theorem t5_zok : Cfg.zerOK ⟨Try.prog, own, verT, wr, md⟩ 5 = true := by kernel_rfl
theorem t5_zer : Cfg.zer ⟨Try.prog, own, verT, wr, md⟩ 5 = some [.v (.int .u8 0)] := by kernel_rfl
theorem t5_some : (Try.prog.underlying 5).isSome = true := by kernel_rfl
theorem t6_csz : Cfg.csz ⟨Try.prog, own, verT, wr, md⟩ 6 = some 1 := by kernel_rfl
theorem t6_bts : Cfg.bts ⟨Try.prog, own, verT, wr, md⟩ 6 = some 1 := by kernel_rfl
theorem t6_ag : Cfg.isAg ⟨Try.prog, own, verT, wr, md⟩ 6 = some false := by kernel_rfl
theorem t6_str : Cfg.isStr ⟨Try.prog, own, verT, wr, md⟩ 6 = false := by kernel_rfl
theorem t6_int : Cfg.intK ⟨Try.prog, own, verT, wr, md⟩ 6 = some .u8 := by kernel_rfl
theorem t6_elem : Cfg.elemT ⟨Try.prog, own, verT, wr, md⟩ 6 = none := by kernel_rfl
theorem t6_zok : Cfg.zerOK ⟨Try.prog, own, verT, wr, md⟩ 6 = true := by kernel_rfl
theorem t6_zer : Cfg.zer ⟨Try.prog, own, verT, wr, md⟩ 6 = some [.v (.int .u8 0)] := by kernel_rfl
theorem t6_some : (Try.prog.underlying 6).isSome = true := by kernel_rfl
theorem t7_csz : Cfg.csz ⟨Try.prog, own, verT, wr, md⟩ 7 = some 4 := by kernel_rfl
theorem t7_bts : Cfg.bts ⟨Try.prog, own, verT, wr, md⟩ 7 = some 24 := by kernel_rfl
theorem t7_ag : Cfg.isAg ⟨Try.prog, own, verT, wr, md⟩ 7 = some true := by kernel_rfl
theorem t7_str : Cfg.isStr ⟨Try.prog, own, verT, wr, md⟩ 7 = false := by kernel_rfl
theorem t7_elem : Cfg.elemT ⟨Try.prog, own, verT, wr, md⟩ 7 = none := by kernel_rfl
theorem t7_zok : Cfg.zerOK ⟨Try.prog, own, verT, wr, md⟩ 7 = true := by kernel_rfl
theorem t7_zer : Cfg.zer ⟨Try.prog, own, verT, wr, md⟩ 7 = some [.v (.int .i64 0), .v (.int .i64 0), .v (.bool false), .v (.int .u8 0)] := by kernel_rfl
theorem t7_some : (Try.prog.underlying 7).isSome = true := by kernel_rfl
theorem t7_flds : Cfg.flds ⟨Try.prog, own, verT, wr, md⟩ 7 = some [(0, 1), (1, 1), (2, 1), (3, 1)] := by kernel_rfl
theorem t7_f0 : Cfg.foff ⟨Try.prog, own, verT, wr, md⟩ 7 0 = some (0, 2) := by kernel_rfl
theorem t7_f1 : Cfg.foff ⟨Try.prog, own, verT, wr, md⟩ 7 1 = some (1, 3) := by kernel_rfl
theorem t7_f2 : Cfg.foff ⟨Try.prog, own, verT, wr, md⟩ 7 2 = some (2, 4) := by kernel_rfl
theorem t7_f3 : Cfg.foff ⟨Try.prog, own, verT, wr, md⟩ 7 3 = some (3, 6) := by kernel_rfl
theorem t8_csz : Cfg.csz ⟨Try.prog, own, verT, wr, md⟩ 8 = some 4 := by kernel_rfl
theorem t8_bts : Cfg.bts ⟨Try.prog, own, verT, wr, md⟩ 8 = some 24 := by kernel_rfl
theorem t8_ag : Cfg.isAg ⟨Try.prog, own, verT, wr, md⟩ 8 = some true := by kernel_rfl
theorem t8_str : Cfg.isStr ⟨Try.prog, own, verT, wr, md⟩ 8 = false := by kernel_rfl
theorem t8_elem : Cfg.elemT ⟨Try.prog, own, verT, wr, md⟩ 8 = none := by kernel_rfl
theorem t8_zok : Cfg.zerOK ⟨Try.prog, own, verT, wr, md⟩ 8 = true := by kernel_rfl
theorem t8_zer : Cfg.zer ⟨Try.prog, own, verT, wr, md⟩ 8 = some [.v (.int .i64 0), .v (.int .i64 0), .v (.bool false), .v (.int .u8 0)] := by kernel_rfl
theorem t8_some : (Try.prog.underlying 8).isSome = true := by kernel_rfl
theorem t8_flds : Cfg.flds ⟨Try.prog, own, verT, wr, md⟩ 8 = some [(0, 1), (1, 1), (2, 1), (3, 1)] := by kernel_rfl
theorem t8_f0 : Cfg.foff ⟨Try.prog, own, verT, wr, md⟩ 8 0 = some (0, 2) := by kernel_rfl
theorem t8_f1 : Cfg.foff ⟨Try.prog, own, verT, wr, md⟩ 8 1 = some (1, 3) := by kernel_rfl
theorem t8_f2 : Cfg.foff ⟨Try.prog, own, verT, wr, md⟩ 8 2 = some (2, 4) := by kernel_rfl
theorem t8_f3 : Cfg.foff ⟨Try.prog, own, verT, wr, md⟩ 8 3 = some (3, 6) := by kernel_rfl
theorem t9_csz : Cfg.csz ⟨Try.prog, own, verT, wr, md⟩ 9 = some 1 := by kernel_rfl
theorem t9_bts : Cfg.bts ⟨Try.prog, own, verT, wr, md⟩ 9 = some 16 := by kernel_rfl
theorem t9_ag : Cfg.isAg ⟨Try.prog, own, verT, wr, md⟩ 9 = some false := by kernel_rfl
theorem t9_str : Cfg.isStr ⟨Try.prog, own, verT, wr, md⟩ 9 = true := by kernel_rfl
theorem t9_elem : Cfg.elemT ⟨Try.prog, own, verT, wr, md⟩ 9 = none := by kernel_rfl
theorem t9_zok : Cfg.zerOK ⟨Try.prog, own, verT, wr, md⟩ 9 = true := by kernel_rfl
theorem t9_zer : Cfg.zer ⟨Try.prog, own, verT, wr, md⟩ 9 = some [.v (.string ByteArray.empty)] := by kernel_rfl
theorem t9_some : (Try.prog.underlying 9).isSome = true := by kernel_rfl
theorem t10_csz : Cfg.csz ⟨Try.prog, own, verT, wr, md⟩ 10 = some 1 := by kernel_rfl
theorem t10_bts : Cfg.bts ⟨Try.prog, own, verT, wr, md⟩ 10 = some 16 := by kernel_rfl
theorem t10_ag : Cfg.isAg ⟨Try.prog, own, verT, wr, md⟩ 10 = some false := by kernel_rfl
theorem t10_str : Cfg.isStr ⟨Try.prog, own, verT, wr, md⟩ 10 = true := by kernel_rfl
theorem t10_elem : Cfg.elemT ⟨Try.prog, own, verT, wr, md⟩ 10 = none := by kernel_rfl
theorem t10_zok : Cfg.zerOK ⟨Try.prog, own, verT, wr, md⟩ 10 = true := by kernel_rfl
theorem t10_zer : Cfg.zer ⟨Try.prog, own, verT, wr, md⟩ 10 = some [.v (.string ByteArray.empty)] := by kernel_rfl
theorem t10_some : (Try.prog.underlying 10).isSome = true := by kernel_rfl
theorem t11_csz : Cfg.csz ⟨Try.prog, own, verT, wr, md⟩ 11 = some 1 := by kernel_rfl
theorem t11_bts : Cfg.bts ⟨Try.prog, own, verT, wr, md⟩ 11 = some 16 := by kernel_rfl
theorem t11_ag : Cfg.isAg ⟨Try.prog, own, verT, wr, md⟩ 11 = some false := by kernel_rfl
theorem t11_str : Cfg.isStr ⟨Try.prog, own, verT, wr, md⟩ 11 = true := by kernel_rfl
theorem t11_elem : Cfg.elemT ⟨Try.prog, own, verT, wr, md⟩ 11 = none := by kernel_rfl
theorem t11_zok : Cfg.zerOK ⟨Try.prog, own, verT, wr, md⟩ 11 = true := by kernel_rfl
theorem t11_zer : Cfg.zer ⟨Try.prog, own, verT, wr, md⟩ 11 = some [.v (.string ByteArray.empty)] := by kernel_rfl
theorem t11_some : (Try.prog.underlying 11).isSome = true := by kernel_rfl
theorem t12_csz : Cfg.csz ⟨Try.prog, own, verT, wr, md⟩ 12 = some 1 := by kernel_rfl
theorem t12_bts : Cfg.bts ⟨Try.prog, own, verT, wr, md⟩ 12 = some 8 := by kernel_rfl
theorem t12_ag : Cfg.isAg ⟨Try.prog, own, verT, wr, md⟩ 12 = some false := by kernel_rfl
theorem t12_str : Cfg.isStr ⟨Try.prog, own, verT, wr, md⟩ 12 = false := by kernel_rfl
theorem t12_int : Cfg.intK ⟨Try.prog, own, verT, wr, md⟩ 12 = some .u64 := by kernel_rfl
theorem t12_elem : Cfg.elemT ⟨Try.prog, own, verT, wr, md⟩ 12 = none := by kernel_rfl
theorem t12_zok : Cfg.zerOK ⟨Try.prog, own, verT, wr, md⟩ 12 = true := by kernel_rfl
theorem t12_zer : Cfg.zer ⟨Try.prog, own, verT, wr, md⟩ 12 = some [.v (.int .u64 0)] := by kernel_rfl
theorem t12_some : (Try.prog.underlying 12).isSome = true := by kernel_rfl
theorem t13_csz : Cfg.csz ⟨Try.prog, own, verT, wr, md⟩ 13 = some 2 := by kernel_rfl
theorem t13_bts : Cfg.bts ⟨Try.prog, own, verT, wr, md⟩ 13 = some 24 := by kernel_rfl
theorem t13_ag : Cfg.isAg ⟨Try.prog, own, verT, wr, md⟩ 13 = some true := by kernel_rfl
theorem t13_str : Cfg.isStr ⟨Try.prog, own, verT, wr, md⟩ 13 = false := by kernel_rfl
theorem t13_elem : Cfg.elemT ⟨Try.prog, own, verT, wr, md⟩ 13 = none := by kernel_rfl
theorem t13_zok : Cfg.zerOK ⟨Try.prog, own, verT, wr, md⟩ 13 = true := by kernel_rfl
theorem t13_zer : Cfg.zer ⟨Try.prog, own, verT, wr, md⟩ 13 = some [.v (.string ByteArray.empty), .v (.int .u64 0)] := by kernel_rfl
theorem t13_some : (Try.prog.underlying 13).isSome = true := by kernel_rfl
theorem t13_flds : Cfg.flds ⟨Try.prog, own, verT, wr, md⟩ 13 = some [(0, 1), (1, 1)] := by kernel_rfl
theorem t13_f0 : Cfg.foff ⟨Try.prog, own, verT, wr, md⟩ 13 0 = some (0, 9) := by kernel_rfl
theorem t13_f1 : Cfg.foff ⟨Try.prog, own, verT, wr, md⟩ 13 1 = some (1, 12) := by kernel_rfl
theorem t14_csz : Cfg.csz ⟨Try.prog, own, verT, wr, md⟩ 14 = some 2 := by kernel_rfl
theorem t14_bts : Cfg.bts ⟨Try.prog, own, verT, wr, md⟩ 14 = some 24 := by kernel_rfl
theorem t14_ag : Cfg.isAg ⟨Try.prog, own, verT, wr, md⟩ 14 = some true := by kernel_rfl
theorem t14_str : Cfg.isStr ⟨Try.prog, own, verT, wr, md⟩ 14 = false := by kernel_rfl
theorem t14_elem : Cfg.elemT ⟨Try.prog, own, verT, wr, md⟩ 14 = none := by kernel_rfl
theorem t14_zok : Cfg.zerOK ⟨Try.prog, own, verT, wr, md⟩ 14 = true := by kernel_rfl
theorem t14_zer : Cfg.zer ⟨Try.prog, own, verT, wr, md⟩ 14 = some [.v (.string ByteArray.empty), .v (.int .u64 0)] := by kernel_rfl
theorem t14_some : (Try.prog.underlying 14).isSome = true := by kernel_rfl
theorem t14_flds : Cfg.flds ⟨Try.prog, own, verT, wr, md⟩ 14 = some [(0, 1), (1, 1)] := by kernel_rfl
theorem t14_f0 : Cfg.foff ⟨Try.prog, own, verT, wr, md⟩ 14 0 = some (0, 9) := by kernel_rfl
theorem t14_f1 : Cfg.foff ⟨Try.prog, own, verT, wr, md⟩ 14 1 = some (1, 12) := by kernel_rfl
theorem t21_csz : Cfg.csz ⟨Try.prog, own, verT, wr, md⟩ 21 = some 1 := by kernel_rfl
theorem t21_bts : Cfg.bts ⟨Try.prog, own, verT, wr, md⟩ 21 = some 4 := by kernel_rfl
theorem t21_ag : Cfg.isAg ⟨Try.prog, own, verT, wr, md⟩ 21 = some false := by kernel_rfl
theorem t21_str : Cfg.isStr ⟨Try.prog, own, verT, wr, md⟩ 21 = false := by kernel_rfl
theorem t21_int : Cfg.intK ⟨Try.prog, own, verT, wr, md⟩ 21 = some .i32 := by kernel_rfl
theorem t21_elem : Cfg.elemT ⟨Try.prog, own, verT, wr, md⟩ 21 = none := by kernel_rfl
theorem t21_zok : Cfg.zerOK ⟨Try.prog, own, verT, wr, md⟩ 21 = true := by kernel_rfl
theorem t21_zer : Cfg.zer ⟨Try.prog, own, verT, wr, md⟩ 21 = some [.v (.int .i32 0)] := by kernel_rfl
theorem t21_some : (Try.prog.underlying 21).isSome = true := by kernel_rfl
theorem t22_csz : Cfg.csz ⟨Try.prog, own, verT, wr, md⟩ 22 = some 3 := by kernel_rfl
theorem t22_bts : Cfg.bts ⟨Try.prog, own, verT, wr, md⟩ 22 = some 24 := by kernel_rfl
theorem t22_ag : Cfg.isAg ⟨Try.prog, own, verT, wr, md⟩ 22 = some true := by kernel_rfl
theorem t22_str : Cfg.isStr ⟨Try.prog, own, verT, wr, md⟩ 22 = false := by kernel_rfl
theorem t22_elem : Cfg.elemT ⟨Try.prog, own, verT, wr, md⟩ 22 = none := by kernel_rfl
theorem t22_zok : Cfg.zerOK ⟨Try.prog, own, verT, wr, md⟩ 22 = true := by kernel_rfl
theorem t22_zer : Cfg.zer ⟨Try.prog, own, verT, wr, md⟩ 22 = some [.v (.int .i64 0), .v (.int .i64 0), .v (.int .i64 0)] := by kernel_rfl
theorem t22_some : (Try.prog.underlying 22).isSome = true := by kernel_rfl
theorem t22_flds : Cfg.flds ⟨Try.prog, own, verT, wr, md⟩ 22 = some [(0, 1), (1, 1), (2, 1)] := by kernel_rfl
theorem t22_f0 : Cfg.foff ⟨Try.prog, own, verT, wr, md⟩ 22 0 = some (0, 2) := by kernel_rfl
theorem t22_f1 : Cfg.foff ⟨Try.prog, own, verT, wr, md⟩ 22 1 = some (1, 2) := by kernel_rfl
theorem t22_f2 : Cfg.foff ⟨Try.prog, own, verT, wr, md⟩ 22 2 = some (2, 2) := by kernel_rfl
theorem t23_csz : Cfg.csz ⟨Try.prog, own, verT, wr, md⟩ 23 = some 3 := by kernel_rfl
theorem t23_bts : Cfg.bts ⟨Try.prog, own, verT, wr, md⟩ 23 = some 24 := by kernel_rfl
theorem t23_ag : Cfg.isAg ⟨Try.prog, own, verT, wr, md⟩ 23 = some true := by kernel_rfl
theorem t23_str : Cfg.isStr ⟨Try.prog, own, verT, wr, md⟩ 23 = false := by kernel_rfl
theorem t23_elem : Cfg.elemT ⟨Try.prog, own, verT, wr, md⟩ 23 = none := by kernel_rfl
theorem t23_zok : Cfg.zerOK ⟨Try.prog, own, verT, wr, md⟩ 23 = true := by kernel_rfl
theorem t23_zer : Cfg.zer ⟨Try.prog, own, verT, wr, md⟩ 23 = some [.v (.int .i64 0), .v (.int .i64 0), .v (.int .i64 0)] := by kernel_rfl
theorem t23_some : (Try.prog.underlying 23).isSome = true := by kernel_rfl
theorem t23_flds : Cfg.flds ⟨Try.prog, own, verT, wr, md⟩ 23 = some [(0, 1), (1, 1), (2, 1)] := by kernel_rfl
theorem t23_f0 : Cfg.foff ⟨Try.prog, own, verT, wr, md⟩ 23 0 = some (0, 2) := by kernel_rfl
theorem t23_f1 : Cfg.foff ⟨Try.prog, own, verT, wr, md⟩ 23 1 = some (1, 2) := by kernel_rfl
theorem t23_f2 : Cfg.foff ⟨Try.prog, own, verT, wr, md⟩ 23 2 = some (2, 2) := by kernel_rfl
theorem t24_csz : Cfg.csz ⟨Try.prog, own, verT, wr, md⟩ 24 = some 1 := by kernel_rfl
theorem t24_bts : Cfg.bts ⟨Try.prog, own, verT, wr, md⟩ 24 = some 24 := by kernel_rfl
theorem t24_ag : Cfg.isAg ⟨Try.prog, own, verT, wr, md⟩ 24 = some false := by kernel_rfl
theorem t24_str : Cfg.isStr ⟨Try.prog, own, verT, wr, md⟩ 24 = false := by kernel_rfl
theorem t24_elem : Cfg.elemT ⟨Try.prog, own, verT, wr, md⟩ 24 = some 9 := by kernel_rfl
theorem t24_zok : Cfg.zerOK ⟨Try.prog, own, verT, wr, md⟩ 24 = true := by kernel_rfl
theorem t24_zer : Cfg.zer ⟨Try.prog, own, verT, wr, md⟩ 24 = some [.nil] := by kernel_rfl
theorem t24_some : (Try.prog.underlying 24).isSome = true := by kernel_rfl
theorem t25_csz : Cfg.csz ⟨Try.prog, own, verT, wr, md⟩ 25 = some 1 := by kernel_rfl
theorem t25_bts : Cfg.bts ⟨Try.prog, own, verT, wr, md⟩ 25 = some 24 := by kernel_rfl
theorem t25_ag : Cfg.isAg ⟨Try.prog, own, verT, wr, md⟩ 25 = some false := by kernel_rfl
theorem t25_str : Cfg.isStr ⟨Try.prog, own, verT, wr, md⟩ 25 = false := by kernel_rfl
theorem t25_elem : Cfg.elemT ⟨Try.prog, own, verT, wr, md⟩ 25 = some 26 := by kernel_rfl
theorem t25_zok : Cfg.zerOK ⟨Try.prog, own, verT, wr, md⟩ 25 = true := by kernel_rfl
theorem t25_zer : Cfg.zer ⟨Try.prog, own, verT, wr, md⟩ 25 = some [.nil] := by kernel_rfl
theorem t25_some : (Try.prog.underlying 25).isSome = true := by kernel_rfl
theorem t26_csz : Cfg.csz ⟨Try.prog, own, verT, wr, md⟩ 26 = some 1 := by kernel_rfl
theorem t26_bts : Cfg.bts ⟨Try.prog, own, verT, wr, md⟩ 26 = some 24 := by kernel_rfl
theorem t26_ag : Cfg.isAg ⟨Try.prog, own, verT, wr, md⟩ 26 = some false := by kernel_rfl
theorem t26_str : Cfg.isStr ⟨Try.prog, own, verT, wr, md⟩ 26 = false := by kernel_rfl
theorem t26_elem : Cfg.elemT ⟨Try.prog, own, verT, wr, md⟩ 26 = some 40 := by kernel_rfl
theorem t26_zok : Cfg.zerOK ⟨Try.prog, own, verT, wr, md⟩ 26 = true := by kernel_rfl
theorem t26_zer : Cfg.zer ⟨Try.prog, own, verT, wr, md⟩ 26 = some [.nil] := by kernel_rfl
theorem t26_some : (Try.prog.underlying 26).isSome = true := by kernel_rfl
theorem t27_csz : Cfg.csz ⟨Try.prog, own, verT, wr, md⟩ 27 = some 8 := by kernel_rfl
theorem t27_bts : Cfg.bts ⟨Try.prog, own, verT, wr, md⟩ 27 = some 120 := by kernel_rfl
theorem t27_ag : Cfg.isAg ⟨Try.prog, own, verT, wr, md⟩ 27 = some true := by kernel_rfl
theorem t27_str : Cfg.isStr ⟨Try.prog, own, verT, wr, md⟩ 27 = false := by kernel_rfl
theorem t27_elem : Cfg.elemT ⟨Try.prog, own, verT, wr, md⟩ 27 = none := by kernel_rfl
theorem t27_zok : Cfg.zerOK ⟨Try.prog, own, verT, wr, md⟩ 27 = true := by kernel_rfl
theorem t27_zer : Cfg.zer ⟨Try.prog, own, verT, wr, md⟩ 27 = some [.v (.string ByteArray.empty), .v (.int .i64 0), .v (.int .i64 0), .v (.int .i64 0), .v (.int .i64 0), .nil, .nil, .nil] := by kernel_rfl
theorem t27_some : (Try.prog.underlying 27).isSome = true := by kernel_rfl
theorem t27_flds : Cfg.flds ⟨Try.prog, own, verT, wr, md⟩ 27 = some [(0, 1), (1, 3), (4, 1), (5, 1), (6, 1), (7, 1)] := by kernel_rfl
theorem t27_f0 : Cfg.foff ⟨Try.prog, own, verT, wr, md⟩ 27 0 = some (0, 9) := by kernel_rfl
theorem t27_f1 : Cfg.foff ⟨Try.prog, own, verT, wr, md⟩ 27 1 = some (1, 23) := by kernel_rfl
theorem t27_f2 : Cfg.foff ⟨Try.prog, own, verT, wr, md⟩ 27 2 = some (4, 2) := by kernel_rfl
theorem t27_f3 : Cfg.foff ⟨Try.prog, own, verT, wr, md⟩ 27 3 = some (5, 24) := by kernel_rfl
theorem t27_f4 : Cfg.foff ⟨Try.prog, own, verT, wr, md⟩ 27 4 = some (6, 25) := by kernel_rfl
theorem t27_f5 : Cfg.foff ⟨Try.prog, own, verT, wr, md⟩ 27 5 = some (7, 26) := by kernel_rfl
theorem t28_csz : Cfg.csz ⟨Try.prog, own, verT, wr, md⟩ 28 = some 8 := by kernel_rfl
theorem t28_bts : Cfg.bts ⟨Try.prog, own, verT, wr, md⟩ 28 = some 120 := by kernel_rfl
theorem t28_ag : Cfg.isAg ⟨Try.prog, own, verT, wr, md⟩ 28 = some true := by kernel_rfl
theorem t28_str : Cfg.isStr ⟨Try.prog, own, verT, wr, md⟩ 28 = false := by kernel_rfl
theorem t28_elem : Cfg.elemT ⟨Try.prog, own, verT, wr, md⟩ 28 = none := by kernel_rfl
theorem t28_zok : Cfg.zerOK ⟨Try.prog, own, verT, wr, md⟩ 28 = true := by kernel_rfl
theorem t28_zer : Cfg.zer ⟨Try.prog, own, verT, wr, md⟩ 28 = some [.v (.string ByteArray.empty), .v (.int .i64 0), .v (.int .i64 0), .v (.int .i64 0), .v (.int .i64 0), .nil, .nil, .nil] := by kernel_rfl
theorem t28_some : (Try.prog.underlying 28).isSome = true := by kernel_rfl
theorem t28_flds : Cfg.flds ⟨Try.prog, own, verT, wr, md⟩ 28 = some [(0, 1), (1, 3), (4, 1), (5, 1), (6, 1), (7, 1)] := by kernel_rfl
theorem t28_f0 : Cfg.foff ⟨Try.prog, own, verT, wr, md⟩ 28 0 = some (0, 9) := by kernel_rfl
theorem t28_f1 : Cfg.foff ⟨Try.prog, own, verT, wr, md⟩ 28 1 = some (1, 23) := by kernel_rfl
theorem t28_f2 : Cfg.foff ⟨Try.prog, own, verT, wr, md⟩ 28 2 = some (4, 2) := by kernel_rfl
theorem t28_f3 : Cfg.foff ⟨Try.prog, own, verT, wr, md⟩ 28 3 = some (5, 24) := by kernel_rfl
theorem t28_f4 : Cfg.foff ⟨Try.prog, own, verT, wr, md⟩ 28 4 = some (6, 25) := by kernel_rfl
theorem t28_f5 : Cfg.foff ⟨Try.prog, own, verT, wr, md⟩ 28 5 = some (7, 26) := by kernel_rfl
theorem t31_csz : Cfg.csz ⟨Try.prog, own, verT, wr, md⟩ 31 = some 3 := by kernel_rfl
theorem t31_bts : Cfg.bts ⟨Try.prog, own, verT, wr, md⟩ 31 = some 24 := by kernel_rfl
theorem t31_ag : Cfg.isAg ⟨Try.prog, own, verT, wr, md⟩ 31 = some true := by kernel_rfl
theorem t31_str : Cfg.isStr ⟨Try.prog, own, verT, wr, md⟩ 31 = false := by kernel_rfl
theorem t31_elem : Cfg.elemT ⟨Try.prog, own, verT, wr, md⟩ 31 = none := by kernel_rfl
theorem t31_zok : Cfg.zerOK ⟨Try.prog, own, verT, wr, md⟩ 31 = true := by kernel_rfl
theorem t31_zer : Cfg.zer ⟨Try.prog, own, verT, wr, md⟩ 31 = some [.v (.int .i64 0), .v (.int .i64 0), .v (.int .i64 0)] := by kernel_rfl
theorem t31_some : (Try.prog.underlying 31).isSome = true := by kernel_rfl
theorem t31_flds : Cfg.flds ⟨Try.prog, own, verT, wr, md⟩ 31 = some [(0, 1), (1, 1), (2, 1)] := by kernel_rfl
theorem t31_f0 : Cfg.foff ⟨Try.prog, own, verT, wr, md⟩ 31 0 = some (0, 2) := by kernel_rfl
theorem t31_f1 : Cfg.foff ⟨Try.prog, own, verT, wr, md⟩ 31 1 = some (1, 2) := by kernel_rfl
theorem t31_f2 : Cfg.foff ⟨Try.prog, own, verT, wr, md⟩ 31 2 = some (2, 2) := by kernel_rfl
theorem t32_csz : Cfg.csz ⟨Try.prog, own, verT, wr, md⟩ 32 = some 1 := by kernel_rfl
theorem t32_bts : Cfg.bts ⟨Try.prog, own, verT, wr, md⟩ 32 = some 24 := by kernel_rfl
theorem t32_ag : Cfg.isAg ⟨Try.prog, own, verT, wr, md⟩ 32 = some false := by kernel_rfl
theorem t32_str : Cfg.isStr ⟨Try.prog, own, verT, wr, md⟩ 32 = false := by kernel_rfl
theorem t32_elem : Cfg.elemT ⟨Try.prog, own, verT, wr, md⟩ 32 = some 33 := by kernel_rfl
theorem t32_zok : Cfg.zerOK ⟨Try.prog, own, verT, wr, md⟩ 32 = true := by kernel_rfl
theorem t32_zer : Cfg.zer ⟨Try.prog, own, verT, wr, md⟩ 32 = some [.nil] := by kernel_rfl
theorem t32_some : (Try.prog.underlying 32).isSome = true := by kernel_rfl
theorem t33_csz : Cfg.csz ⟨Try.prog, own, verT, wr, md⟩ 33 = some 1 := by kernel_rfl
theorem t33_bts : Cfg.bts ⟨Try.prog, own, verT, wr, md⟩ 33 = some 24 := by kernel_rfl
theorem t33_ag : Cfg.isAg ⟨Try.prog, own, verT, wr, md⟩ 33 = some false := by kernel_rfl
theorem t33_str : Cfg.isStr ⟨Try.prog, own, verT, wr, md⟩ 33 = false := by kernel_rfl
theorem t33_elem : Cfg.elemT ⟨Try.prog, own, verT, wr, md⟩ 33 = some 44 := by kernel_rfl
theorem t33_zok : Cfg.zerOK ⟨Try.prog, own, verT, wr, md⟩ 33 = true := by kernel_rfl
theorem t33_zer : Cfg.zer ⟨Try.prog, own, verT, wr, md⟩ 33 = some [.nil] := by kernel_rfl
theorem t33_some : (Try.prog.underlying 33).isSome = true := by kernel_rfl
theorem t34_csz : Cfg.csz ⟨Try.prog, own, verT, wr, md⟩ 34 = some 8 := by kernel_rfl
theorem t34_bts : Cfg.bts ⟨Try.prog, own, verT, wr, md⟩ 34 = some 120 := by kernel_rfl
theorem t34_ag : Cfg.isAg ⟨Try.prog, own, verT, wr, md⟩ 34 = some true := by kernel_rfl
theorem t34_str : Cfg.isStr ⟨Try.prog, own, verT, wr, md⟩ 34 = false := by kernel_rfl
theorem t34_elem : Cfg.elemT ⟨Try.prog, own, verT, wr, md⟩ 34 = none := by kernel_rfl
theorem t34_zok : Cfg.zerOK ⟨Try.prog, own, verT, wr, md⟩ 34 = true := by kernel_rfl
theorem t34_zer : Cfg.zer ⟨Try.prog, own, verT, wr, md⟩ 34 = some [.v (.string ByteArray.empty), .v (.int .i64 0), .v (.int .i64 0), .v (.int .i64 0), .v (.int .i64 0), .nil, .nil, .nil] := by kernel_rfl
theorem t34_some : (Try.prog.underlying 34).isSome = true := by kernel_rfl
theorem t34_flds : Cfg.flds ⟨Try.prog, own, verT, wr, md⟩ 34 = some [(0, 1), (1, 3), (4, 1), (5, 1), (6, 1), (7, 1)] := by kernel_rfl
theorem t34_f0 : Cfg.foff ⟨Try.prog, own, verT, wr, md⟩ 34 0 = some (0, 9) := by kernel_rfl
theorem t34_f1 : Cfg.foff ⟨Try.prog, own, verT, wr, md⟩ 34 1 = some (1, 31) := by kernel_rfl
theorem t34_f2 : Cfg.foff ⟨Try.prog, own, verT, wr, md⟩ 34 2 = some (4, 2) := by kernel_rfl
theorem t34_f3 : Cfg.foff ⟨Try.prog, own, verT, wr, md⟩ 34 3 = some (5, 24) := by kernel_rfl
theorem t34_f4 : Cfg.foff ⟨Try.prog, own, verT, wr, md⟩ 34 4 = some (6, 32) := by kernel_rfl
theorem t34_f5 : Cfg.foff ⟨Try.prog, own, verT, wr, md⟩ 34 5 = some (7, 33) := by kernel_rfl
theorem t35_csz : Cfg.csz ⟨Try.prog, own, verT, wr, md⟩ 35 = some 8 := by kernel_rfl
theorem t35_bts : Cfg.bts ⟨Try.prog, own, verT, wr, md⟩ 35 = some 120 := by kernel_rfl
theorem t35_ag : Cfg.isAg ⟨Try.prog, own, verT, wr, md⟩ 35 = some true := by kernel_rfl
theorem t35_str : Cfg.isStr ⟨Try.prog, own, verT, wr, md⟩ 35 = false := by kernel_rfl
theorem t35_elem : Cfg.elemT ⟨Try.prog, own, verT, wr, md⟩ 35 = none := by kernel_rfl
theorem t35_zok : Cfg.zerOK ⟨Try.prog, own, verT, wr, md⟩ 35 = true := by kernel_rfl
theorem t35_zer : Cfg.zer ⟨Try.prog, own, verT, wr, md⟩ 35 = some [.v (.string ByteArray.empty), .v (.int .i64 0), .v (.int .i64 0), .v (.int .i64 0), .v (.int .i64 0), .nil, .nil, .nil] := by kernel_rfl
theorem t35_some : (Try.prog.underlying 35).isSome = true := by kernel_rfl
theorem t35_flds : Cfg.flds ⟨Try.prog, own, verT, wr, md⟩ 35 = some [(0, 1), (1, 3), (4, 1), (5, 1), (6, 1), (7, 1)] := by kernel_rfl
theorem t35_f0 : Cfg.foff ⟨Try.prog, own, verT, wr, md⟩ 35 0 = some (0, 9) := by kernel_rfl
theorem t35_f1 : Cfg.foff ⟨Try.prog, own, verT, wr, md⟩ 35 1 = some (1, 31) := by kernel_rfl
theorem t35_f2 : Cfg.foff ⟨Try.prog, own, verT, wr, md⟩ 35 2 = some (4, 2) := by kernel_rfl
theorem t35_f3 : Cfg.foff ⟨Try.prog, own, verT, wr, md⟩ 35 3 = some (5, 24) := by kernel_rfl
theorem t35_f4 : Cfg.foff ⟨Try.prog, own, verT, wr, md⟩ 35 4 = some (6, 32) := by kernel_rfl
theorem t35_f5 : Cfg.foff ⟨Try.prog, own, verT, wr, md⟩ 35 5 = some (7, 33) := by kernel_rfl
theorem t39_csz : Cfg.csz ⟨Try.prog, own, verT, wr, md⟩ 39 = some 7 := by kernel_rfl
theorem t39_bts : Cfg.bts ⟨Try.prog, own, verT, wr, md⟩ 39 = some 64 := by kernel_rfl
theorem t39_ag : Cfg.isAg ⟨Try.prog, own, verT, wr, md⟩ 39 = some true := by kernel_rfl
theorem t39_str : Cfg.isStr ⟨Try.prog, own, verT, wr, md⟩ 39 = false := by kernel_rfl
theorem t39_elem : Cfg.elemT ⟨Try.prog, own, verT, wr, md⟩ 39 = none := by kernel_rfl
theorem t39_zok : Cfg.zerOK ⟨Try.prog, own, verT, wr, md⟩ 39 = true := by kernel_rfl
theorem t39_zer : Cfg.zer ⟨Try.prog, own, verT, wr, md⟩ 39 = some [.v (.string ByteArray.empty), .v (.int .i64 0), .v (.int .i64 0), .v (.int .i64 0), .v (.int .i64 0), .v (.int .i64 0), .v (.int .i64 0)] := by kernel_rfl
theorem t39_some : (Try.prog.underlying 39).isSome = true := by kernel_rfl
theorem t39_flds : Cfg.flds ⟨Try.prog, own, verT, wr, md⟩ 39 = some [(0, 1), (1, 3), (4, 3)] := by kernel_rfl
theorem t39_f0 : Cfg.foff ⟨Try.prog, own, verT, wr, md⟩ 39 0 = some (0, 9) := by kernel_rfl
theorem t39_f1 : Cfg.foff ⟨Try.prog, own, verT, wr, md⟩ 39 1 = some (1, 23) := by kernel_rfl
theorem t39_f2 : Cfg.foff ⟨Try.prog, own, verT, wr, md⟩ 39 2 = some (4, 23) := by kernel_rfl
theorem t40_csz : Cfg.csz ⟨Try.prog, own, verT, wr, md⟩ 40 = some 7 := by kernel_rfl
theorem t40_bts : Cfg.bts ⟨Try.prog, own, verT, wr, md⟩ 40 = some 64 := by kernel_rfl
theorem t40_ag : Cfg.isAg ⟨Try.prog, own, verT, wr, md⟩ 40 = some true := by kernel_rfl
theorem t40_str : Cfg.isStr ⟨Try.prog, own, verT, wr, md⟩ 40 = false := by kernel_rfl
theorem t40_elem : Cfg.elemT ⟨Try.prog, own, verT, wr, md⟩ 40 = none := by kernel_rfl
theorem t40_zok : Cfg.zerOK ⟨Try.prog, own, verT, wr, md⟩ 40 = true := by kernel_rfl
theorem t40_zer : Cfg.zer ⟨Try.prog, own, verT, wr, md⟩ 40 = some [.v (.string ByteArray.empty), .v (.int .i64 0), .v (.int .i64 0), .v (.int .i64 0), .v (.int .i64 0), .v (.int .i64 0), .v (.int .i64 0)] := by kernel_rfl
theorem t40_some : (Try.prog.underlying 40).isSome = true := by kernel_rfl
theorem t40_flds : Cfg.flds ⟨Try.prog, own, verT, wr, md⟩ 40 = some [(0, 1), (1, 3), (4, 3)] := by kernel_rfl
theorem t40_f0 : Cfg.foff ⟨Try.prog, own, verT, wr, md⟩ 40 0 = some (0, 9) := by kernel_rfl
theorem t40_f1 : Cfg.foff ⟨Try.prog, own, verT, wr, md⟩ 40 1 = some (1, 23) := by kernel_rfl
theorem t40_f2 : Cfg.foff ⟨Try.prog, own, verT, wr, md⟩ 40 2 = some (4, 23) := by kernel_rfl
theorem t43_csz : Cfg.csz ⟨Try.prog, own, verT, wr, md⟩ 43 = some 7 := by kernel_rfl
theorem t43_bts : Cfg.bts ⟨Try.prog, own, verT, wr, md⟩ 43 = some 64 := by kernel_rfl
theorem t43_ag : Cfg.isAg ⟨Try.prog, own, verT, wr, md⟩ 43 = some true := by kernel_rfl
theorem t43_str : Cfg.isStr ⟨Try.prog, own, verT, wr, md⟩ 43 = false := by kernel_rfl
theorem t43_elem : Cfg.elemT ⟨Try.prog, own, verT, wr, md⟩ 43 = none := by kernel_rfl
theorem t43_zok : Cfg.zerOK ⟨Try.prog, own, verT, wr, md⟩ 43 = true := by kernel_rfl
theorem t43_zer : Cfg.zer ⟨Try.prog, own, verT, wr, md⟩ 43 = some [.v (.string ByteArray.empty), .v (.int .i64 0), .v (.int .i64 0), .v (.int .i64 0), .v (.int .i64 0), .v (.int .i64 0), .v (.int .i64 0)] := by kernel_rfl
theorem t43_some : (Try.prog.underlying 43).isSome = true := by kernel_rfl
theorem t43_flds : Cfg.flds ⟨Try.prog, own, verT, wr, md⟩ 43 = some [(0, 1), (1, 3), (4, 3)] := by kernel_rfl
theorem t43_f0 : Cfg.foff ⟨Try.prog, own, verT, wr, md⟩ 43 0 = some (0, 9) := by kernel_rfl
theorem t43_f1 : Cfg.foff ⟨Try.prog, own, verT, wr, md⟩ 43 1 = some (1, 31) := by kernel_rfl
theorem t43_f2 : Cfg.foff ⟨Try.prog, own, verT, wr, md⟩ 43 2 = some (4, 31) := by kernel_rfl
theorem t44_csz : Cfg.csz ⟨Try.prog, own, verT, wr, md⟩ 44 = some 7 := by kernel_rfl
theorem t44_bts : Cfg.bts ⟨Try.prog, own, verT, wr, md⟩ 44 = some 64 := by kernel_rfl
theorem t44_ag : Cfg.isAg ⟨Try.prog, own, verT, wr, md⟩ 44 = some true := by kernel_rfl
theorem t44_str : Cfg.isStr ⟨Try.prog, own, verT, wr, md⟩ 44 = false := by kernel_rfl
theorem t44_elem : Cfg.elemT ⟨Try.prog, own, verT, wr, md⟩ 44 = none := by kernel_rfl
theorem t44_zok : Cfg.zerOK ⟨Try.prog, own, verT, wr, md⟩ 44 = true := by kernel_rfl
theorem t44_zer : Cfg.zer ⟨Try.prog, own, verT, wr, md⟩ 44 = some [.v (.string ByteArray.empty), .v (.int .i64 0), .v (.int .i64 0), .v (.int .i64 0), .v (.int .i64 0), .v (.int .i64 0), .v (.int .i64 0)] := by kernel_rfl
theorem t44_some : (Try.prog.underlying 44).isSome = true := by kernel_rfl
theorem t44_flds : Cfg.flds ⟨Try.prog, own, verT, wr, md⟩ 44 = some [(0, 1), (1, 3), (4, 3)] := by kernel_rfl
theorem t44_f0 : Cfg.foff ⟨Try.prog, own, verT, wr, md⟩ 44 0 = some (0, 9) := by kernel_rfl
theorem t44_f1 : Cfg.foff ⟨Try.prog, own, verT, wr, md⟩ 44 1 = some (1, 31) := by kernel_rfl
theorem t44_f2 : Cfg.foff ⟨Try.prog, own, verT, wr, md⟩ 44 2 = some (4, 31) := by kernel_rfl
theorem t47_csz : Cfg.csz ⟨Try.prog, own, verT, wr, md⟩ 47 = some 1 := by kernel_rfl
theorem t47_bts : Cfg.bts ⟨Try.prog, own, verT, wr, md⟩ 47 = some 24 := by kernel_rfl
theorem t47_ag : Cfg.isAg ⟨Try.prog, own, verT, wr, md⟩ 47 = some false := by kernel_rfl
theorem t47_str : Cfg.isStr ⟨Try.prog, own, verT, wr, md⟩ 47 = false := by kernel_rfl
theorem t47_elem : Cfg.elemT ⟨Try.prog, own, verT, wr, md⟩ 47 = some 5 := by kernel_rfl
theorem t47_zok : Cfg.zerOK ⟨Try.prog, own, verT, wr, md⟩ 47 = true := by kernel_rfl
theorem t47_zer : Cfg.zer ⟨Try.prog, own, verT, wr, md⟩ 47 = some [.nil] := by kernel_rfl
theorem t47_some : (Try.prog.underlying 47).isSome = true := by kernel_rfl
theorem t49_csz : Cfg.csz ⟨Try.prog, own, verT, wr, md⟩ 49 = some 1 := by kernel_rfl
theorem t49_bts : Cfg.bts ⟨Try.prog, own, verT, wr, md⟩ 49 = some 24 := by kernel_rfl
theorem t49_ag : Cfg.isAg ⟨Try.prog, own, verT, wr, md⟩ 49 = some false := by kernel_rfl
theorem t49_str : Cfg.isStr ⟨Try.prog, own, verT, wr, md⟩ 49 = false := by kernel_rfl
theorem t49_elem : Cfg.elemT ⟨Try.prog, own, verT, wr, md⟩ 49 = some 35 := by kernel_rfl
theorem t49_zok : Cfg.zerOK ⟨Try.prog, own, verT, wr, md⟩ 49 = true := by kernel_rfl
theorem t49_zer : Cfg.zer ⟨Try.prog, own, verT, wr, md⟩ 49 = some [.nil] := by kernel_rfl
theorem t49_some : (Try.prog.underlying 49).isSome = true := by kernel_rfl
theorem t52_csz : Cfg.csz ⟨Try.prog, own, verT, wr, md⟩ 52 = some 2 := by kernel_rfl
theorem t52_bts : Cfg.bts ⟨Try.prog, own, verT, wr, md⟩ 52 = some 16 := by kernel_rfl
theorem t52_ag : Cfg.isAg ⟨Try.prog, own, verT, wr, md⟩ 52 = some true := by kernel_rfl
theorem t52_str : Cfg.isStr ⟨Try.prog, own, verT, wr, md⟩ 52 = false := by kernel_rfl
theorem t52_elem : Cfg.elemT ⟨Try.prog, own, verT, wr, md⟩ 52 = none := by kernel_rfl
theorem t52_zok : Cfg.zerOK ⟨Try.prog, own, verT, wr, md⟩ 52 = true := by kernel_rfl
theorem t52_zer : Cfg.zer ⟨Try.prog, own, verT, wr, md⟩ 52 = some [.v (.int .i64 0), .v (.int .i64 0)] := by kernel_rfl
theorem t52_some : (Try.prog.underlying 52).isSome = true := by kernel_rfl
theorem t52_flds : Cfg.flds ⟨Try.prog, own, verT, wr, md⟩ 52 = some [(0, 1), (1, 1)] := by kernel_rfl
theorem t52_f0 : Cfg.foff ⟨Try.prog, own, verT, wr, md⟩ 52 0 = some (0, 2) := by kernel_rfl
theorem t52_f1 : Cfg.foff ⟨Try.prog, own, verT, wr, md⟩ 52 1 = some (1, 2) := by kernel_rfl
theorem t53_csz : Cfg.csz ⟨Try.prog, own, verT, wr, md⟩ 53 = some 2 := by kernel_rfl
theorem t53_bts : Cfg.bts ⟨Try.prog, own, verT, wr, md⟩ 53 = some 16 := by kernel_rfl
theorem t53_ag : Cfg.isAg ⟨Try.prog, own, verT, wr, md⟩ 53 = some true := by kernel_rfl
theorem t53_str : Cfg.isStr ⟨Try.prog, own, verT, wr, md⟩ 53 = false := by kernel_rfl
theorem t53_elem : Cfg.elemT ⟨Try.prog, own, verT, wr, md⟩ 53 = none := by kernel_rfl
theorem t53_zok : Cfg.zerOK ⟨Try.prog, own, verT, wr, md⟩ 53 = true := by kernel_rfl
theorem t53_zer : Cfg.zer ⟨Try.prog, own, verT, wr, md⟩ 53 = some [.v (.int .i64 0), .v (.int .i64 0)] := by kernel_rfl
theorem t53_some : (Try.prog.underlying 53).isSome = true := by kernel_rfl
theorem t53_flds : Cfg.flds ⟨Try.prog, own, verT, wr, md⟩ 53 = some [(0, 1), (1, 1)] := by kernel_rfl
theorem t53_f0 : Cfg.foff ⟨Try.prog, own, verT, wr, md⟩ 53 0 = some (0, 2) := by kernel_rfl
theorem t53_f1 : Cfg.foff ⟨Try.prog, own, verT, wr, md⟩ 53 1 = some (1, 2) := by kernel_rfl
theorem t56_csz : Cfg.csz ⟨Try.prog, own, verT, wr, md⟩ 56 = some 2 := by kernel_rfl
theorem t56_bts : Cfg.bts ⟨Try.prog, own, verT, wr, md⟩ 56 = some 32 := by kernel_rfl
theorem t56_ag : Cfg.isAg ⟨Try.prog, own, verT, wr, md⟩ 56 = some true := by kernel_rfl
theorem t56_str : Cfg.isStr ⟨Try.prog, own, verT, wr, md⟩ 56 = false := by kernel_rfl
theorem t56_elem : Cfg.elemT ⟨Try.prog, own, verT, wr, md⟩ 56 = none := by kernel_rfl
theorem t56_zok : Cfg.zerOK ⟨Try.prog, own, verT, wr, md⟩ 56 = true := by kernel_rfl
theorem t56_zer : Cfg.zer ⟨Try.prog, own, verT, wr, md⟩ 56 = some [.v (.int .i64 0), .nil] := by kernel_rfl
theorem t56_some : (Try.prog.underlying 56).isSome = true := by kernel_rfl
theorem t56_flds : Cfg.flds ⟨Try.prog, own, verT, wr, md⟩ 56 = some [(0, 1), (1, 1)] := by kernel_rfl
theorem t56_f0 : Cfg.foff ⟨Try.prog, own, verT, wr, md⟩ 56 0 = some (0, 2) := by kernel_rfl
theorem t56_f1 : Cfg.foff ⟨Try.prog, own, verT, wr, md⟩ 56 1 = some (1, 47) := by kernel_rfl
theorem t57_csz : Cfg.csz ⟨Try.prog, own, verT, wr, md⟩ 57 = some 2 := by kernel_rfl
theorem t57_bts : Cfg.bts ⟨Try.prog, own, verT, wr, md⟩ 57 = some 32 := by kernel_rfl
theorem t57_ag : Cfg.isAg ⟨Try.prog, own, verT, wr, md⟩ 57 = some true := by kernel_rfl
theorem t57_str : Cfg.isStr ⟨Try.prog, own, verT, wr, md⟩ 57 = false := by kernel_rfl
theorem t57_elem : Cfg.elemT ⟨Try.prog, own, verT, wr, md⟩ 57 = none := by kernel_rfl
theorem t57_zok : Cfg.zerOK ⟨Try.prog, own, verT, wr, md⟩ 57 = true := by kernel_rfl
theorem t57_zer : Cfg.zer ⟨Try.prog, own, verT, wr, md⟩ 57 = some [.v (.int .i64 0), .nil] := by kernel_rfl
theorem t57_some : (Try.prog.underlying 57).isSome = true := by kernel_rfl
theorem t57_flds : Cfg.flds ⟨Try.prog, own, verT, wr, md⟩ 57 = some [(0, 1), (1, 1)] := by kernel_rfl
theorem t57_f0 : Cfg.foff ⟨Try.prog, own, verT, wr, md⟩ 57 0 = some (0, 2) := by kernel_rfl
theorem t57_f1 : Cfg.foff ⟨Try.prog, own, verT, wr, md⟩ 57 1 = some (1, 47) := by kernel_rfl
theorem t60_csz : Cfg.csz ⟨Try.prog, own, verT, wr, md⟩ 60 = some 1 := by kernel_rfl
theorem t60_bts : Cfg.bts ⟨Try.prog, own, verT, wr, md⟩ 60 = some 24 := by kernel_rfl
theorem t60_ag : Cfg.isAg ⟨Try.prog, own, verT, wr, md⟩ 60 = some false := by kernel_rfl
theorem t60_str : Cfg.isStr ⟨Try.prog, own, verT, wr, md⟩ 60 = false := by kernel_rfl
theorem t60_elem : Cfg.elemT ⟨Try.prog, own, verT, wr, md⟩ 60 = some 28 := by kernel_rfl
theorem t60_zok : Cfg.zerOK ⟨Try.prog, own, verT, wr, md⟩ 60 = true := by kernel_rfl
theorem t60_zer : Cfg.zer ⟨Try.prog, own, verT, wr, md⟩ 60 = some [.nil] := by kernel_rfl
theorem t60_some : (Try.prog.underlying 60).isSome = true := by kernel_rfl
theorem t69_csz : Cfg.csz ⟨Try.prog, own, verT, wr, md⟩ 69 = some 1 := by kernel_rfl
theorem t69_bts : Cfg.bts ⟨Try.prog, own, verT, wr, md⟩ 69 = some 24 := by kernel_rfl
theorem t69_ag : Cfg.isAg ⟨Try.prog, own, verT, wr, md⟩ 69 = some false := by kernel_rfl
theorem t69_str : Cfg.isStr ⟨Try.prog, own, verT, wr, md⟩ 69 = false := by kernel_rfl
theorem t69_elem : Cfg.elemT ⟨Try.prog, own, verT, wr, md⟩ 69 = some 2 := by kernel_rfl
theorem t69_zok : Cfg.zerOK ⟨Try.prog, own, verT, wr, md⟩ 69 = true := by kernel_rfl
theorem t69_zer : Cfg.zer ⟨Try.prog, own, verT, wr, md⟩ 69 = some [.nil] := by kernel_rfl
theorem t69_some : (Try.prog.underlying 69).isSome = true := by kernel_rfl
theorem t95_csz : Cfg.csz ⟨Try.prog, own, verT, wr, md⟩ 95 = some 3 := by kernel_rfl
theorem t95_bts : Cfg.bts ⟨Try.prog, own, verT, wr, md⟩ 95 = some 40 := by kernel_rfl
theorem t95_ag : Cfg.isAg ⟨Try.prog, own, verT, wr, md⟩ 95 = some true := by kernel_rfl
theorem t95_str : Cfg.isStr ⟨Try.prog, own, verT, wr, md⟩ 95 = false := by kernel_rfl
theorem t95_elem : Cfg.elemT ⟨Try.prog, own, verT, wr, md⟩ 95 = none := by kernel_rfl
theorem t95_zok : Cfg.zerOK ⟨Try.prog, own, verT, wr, md⟩ 95 = true := by kernel_rfl
theorem t95_zer : Cfg.zer ⟨Try.prog, own, verT, wr, md⟩ 95 = some [.v (.int .i64 0), .v (.int .i64 0), .nil] := by kernel_rfl
theorem t95_some : (Try.prog.underlying 95).isSome = true := by kernel_rfl
theorem t95_flds : Cfg.flds ⟨Try.prog, own, verT, wr, md⟩ 95 = some [(0, 1), (1, 1), (2, 1)] := by kernel_rfl
theorem t95_f0 : Cfg.foff ⟨Try.prog, own, verT, wr, md⟩ 95 0 = some (0, 2) := by kernel_rfl
theorem t95_f1 : Cfg.foff ⟨Try.prog, own, verT, wr, md⟩ 95 1 = some (1, 2) := by kernel_rfl
theorem t95_f2 : Cfg.foff ⟨Try.prog, own, verT, wr, md⟩ 95 2 = some (2, 69) := by kernel_rfl
theorem t96_csz : Cfg.csz ⟨Try.prog, own, verT, wr, md⟩ 96 = some 3 := by kernel_rfl
theorem t96_bts : Cfg.bts ⟨Try.prog, own, verT, wr, md⟩ 96 = some 40 := by kernel_rfl
theorem t96_ag : Cfg.isAg ⟨Try.prog, own, verT, wr, md⟩ 96 = some true := by kernel_rfl
theorem t96_str : Cfg.isStr ⟨Try.prog, own, verT, wr, md⟩ 96 = false := by kernel_rfl
theorem t96_elem : Cfg.elemT ⟨Try.prog, own, verT, wr, md⟩ 96 = none := by kernel_rfl
theorem t96_zok : Cfg.zerOK ⟨Try.prog, own, verT, wr, md⟩ 96 = true := by kernel_rfl
theorem t96_zer : Cfg.zer ⟨Try.prog, own, verT, wr, md⟩ 96 = some [.v (.int .i64 0), .v (.int .i64 0), .nil] := by kernel_rfl
theorem t96_some : (Try.prog.underlying 96).isSome = true := by kernel_rfl
theorem t96_flds : Cfg.flds ⟨Try.prog, own, verT, wr, md⟩ 96 = some [(0, 1), (1, 1), (2, 1)] := by kernel_rfl
theorem t96_f0 : Cfg.foff ⟨Try.prog, own, verT, wr, md⟩ 96 0 = some (0, 2) := by kernel_rfl
theorem t96_f1 : Cfg.foff ⟨Try.prog, own, verT, wr, md⟩ 96 1 = some (1, 2) := by kernel_rfl
theorem t96_f2 : Cfg.foff ⟨Try.prog, own, verT, wr, md⟩ 96 2 = some (2, 69) := by kernel_rfl
theorem t102_csz : Cfg.csz ⟨Try.prog, own, verT, wr, md⟩ 102 = some 2 := by kernel_rfl
theorem t102_bts : Cfg.bts ⟨Try.prog, own, verT, wr, md⟩ 102 = some 32 := by kernel_rfl
theorem t102_ag : Cfg.isAg ⟨Try.prog, own, verT, wr, md⟩ 102 = some true := by kernel_rfl
theorem t102_str : Cfg.isStr ⟨Try.prog, own, verT, wr, md⟩ 102 = false := by kernel_rfl
theorem t102_elem : Cfg.elemT ⟨Try.prog, own, verT, wr, md⟩ 102 = none := by kernel_rfl
theorem t102_zok : Cfg.zerOK ⟨Try.prog, own, verT, wr, md⟩ 102 = true := by kernel_rfl
theorem t102_zer : Cfg.zer ⟨Try.prog, own, verT, wr, md⟩ 102 = some [.v (.int .i64 0), .nil] := by kernel_rfl
theorem t102_some : (Try.prog.underlying 102).isSome = true := by kernel_rfl
theorem t102_flds : Cfg.flds ⟨Try.prog, own, verT, wr, md⟩ 102 = some [(0, 1), (1, 1)] := by kernel_rfl
theorem t102_f0 : Cfg.foff ⟨Try.prog, own, verT, wr, md⟩ 102 0 = some (0, 2) := by kernel_rfl
theorem t102_f1 : Cfg.foff ⟨Try.prog, own, verT, wr, md⟩ 102 1 = some (1, 24) := by kernel_rfl
theorem t103_csz : Cfg.csz ⟨Try.prog, own, verT, wr, md⟩ 103 = some 2 := by kernel_rfl
theorem t103_bts : Cfg.bts ⟨Try.prog, own, verT, wr, md⟩ 103 = some 32 := by kernel_rfl
theorem t103_ag : Cfg.isAg ⟨Try.prog, own, verT, wr, md⟩ 103 = some true := by kernel_rfl
theorem t103_str : Cfg.isStr ⟨Try.prog, own, verT, wr, md⟩ 103 = false := by kernel_rfl
theorem t103_elem : Cfg.elemT ⟨Try.prog, own, verT, wr, md⟩ 103 = none := by kernel_rfl
theorem t103_zok : Cfg.zerOK ⟨Try.prog, own, verT, wr, md⟩ 103 = true := by kernel_rfl
theorem t103_zer : Cfg.zer ⟨Try.prog, own, verT, wr, md⟩ 103 = some [.v (.int .i64 0), .nil] := by kernel_rfl
theorem t103_some : (Try.prog.underlying 103).isSome = true := by kernel_rfl
theorem t103_flds : Cfg.flds ⟨Try.prog, own, verT, wr, md⟩ 103 = some [(0, 1), (1, 1)] := by kernel_rfl
theorem t103_f0 : Cfg.foff ⟨Try.prog, own, verT, wr, md⟩ 103 0 = some (0, 2) := by kernel_rfl
theorem t103_f1 : Cfg.foff ⟨Try.prog, own, verT, wr, md⟩ 103 1 = some (1, 24) := by kernel_rfl
theorem t139_csz : Cfg.csz ⟨Try.prog, own, verT, wr, md⟩ 139 = some 1 := by kernel_rfl
theorem t139_bts : Cfg.bts ⟨Try.prog, own, verT, wr, md⟩ 139 = some 8 := by kernel_rfl
theorem t139_ag : Cfg.isAg ⟨Try.prog, own, verT, wr, md⟩ 139 = some false := by kernel_rfl
theorem t139_str : Cfg.isStr ⟨Try.prog, own, verT, wr, md⟩ 139 = false := by kernel_rfl
theorem t139_int : Cfg.intK ⟨Try.prog, own, verT, wr, md⟩ 139 = some .u64 := by kernel_rfl
theorem t139_elem : Cfg.elemT ⟨Try.prog, own, verT, wr, md⟩ 139 = none := by kernel_rfl
theorem t139_zok : Cfg.zerOK ⟨Try.prog, own, verT, wr, md⟩ 139 = true := by kernel_rfl
theorem t139_zer : Cfg.zer ⟨Try.prog, own, verT, wr, md⟩ 139 = some [.v (.int .u64 0)] := by kernel_rfl
theorem t139_some : (Try.prog.underlying 139).isSome = true := by kernel_rfl
theorem t159_csz : Cfg.csz ⟨Try.prog, own, verT, wr, md⟩ 159 = some 2 := by kernel_rfl
theorem t159_bts : Cfg.bts ⟨Try.prog, own, verT, wr, md⟩ 159 = some 32 := by kernel_rfl
theorem t159_ag : Cfg.isAg ⟨Try.prog, own, verT, wr, md⟩ 159 = some true := by kernel_rfl
theorem t159_str : Cfg.isStr ⟨Try.prog, own, verT, wr, md⟩ 159 = false := by kernel_rfl
theorem t159_elem : Cfg.elemT ⟨Try.prog, own, verT, wr, md⟩ 159 = none := by kernel_rfl
theorem t159_zok : Cfg.zerOK ⟨Try.prog, own, verT, wr, md⟩ 159 = true := by kernel_rfl
theorem t159_zer : Cfg.zer ⟨Try.prog, own, verT, wr, md⟩ 159 = some [.nil, .v (.int .i64 0)] := by kernel_rfl
theorem t159_some : (Try.prog.underlying 159).isSome = true := by kernel_rfl
theorem t159_flds : Cfg.flds ⟨Try.prog, own, verT, wr, md⟩ 159 = some [(0, 1), (1, 1)] := by kernel_rfl
theorem t159_f0 : Cfg.foff ⟨Try.prog, own, verT, wr, md⟩ 159 0 = some (0, 47) := by kernel_rfl
theorem t159_f1 : Cfg.foff ⟨Try.prog, own, verT, wr, md⟩ 159 1 = some (1, 2) := by kernel_rfl
theorem t160_csz : Cfg.csz ⟨Try.prog, own, verT, wr, md⟩ 160 = some 2 := by kernel_rfl
theorem t160_bts : Cfg.bts ⟨Try.prog, own, verT, wr, md⟩ 160 = some 32 := by kernel_rfl
theorem t160_ag : Cfg.isAg ⟨Try.prog, own, verT, wr, md⟩ 160 = some true := by kernel_rfl
theorem t160_str : Cfg.isStr ⟨Try.prog, own, verT, wr, md⟩ 160 = false := by kernel_rfl
theorem t160_elem : Cfg.elemT ⟨Try.prog, own, verT, wr, md⟩ 160 = none := by kernel_rfl
theorem t160_zok : Cfg.zerOK ⟨Try.prog, own, verT, wr, md⟩ 160 = true := by kernel_rfl
theorem t160_zer : Cfg.zer ⟨Try.prog, own, verT, wr, md⟩ 160 = some [.nil, .v (.int .i64 0)] := by kernel_rfl
theorem t160_some : (Try.prog.underlying 160).isSome = true := by kernel_rfl
theorem t160_flds : Cfg.flds ⟨Try.prog, own, verT, wr, md⟩ 160 = some [(0, 1), (1, 1)] := by kernel_rfl
theorem t160_f0 : Cfg.foff ⟨Try.prog, own, verT, wr, md⟩ 160 0 = some (0, 47) := by kernel_rfl
theorem t160_f1 : Cfg.foff ⟨Try.prog, own, verT, wr, md⟩ 160 1 = some (1, 2) := by kernel_rfl
theorem t171_csz : Cfg.csz ⟨Try.prog, own, verT, wr, md⟩ 171 = some 1 := by kernel_rfl
theorem t171_bts : Cfg.bts ⟨Try.prog, own, verT, wr, md⟩ 171 = some 24 := by kernel_rfl
theorem t171_ag : Cfg.isAg ⟨Try.prog, own, verT, wr, md⟩ 171 = some false := by kernel_rfl
theorem t171_str : Cfg.isStr ⟨Try.prog, own, verT, wr, md⟩ 171 = false := by kernel_rfl
theorem t171_elem : Cfg.elemT ⟨Try.prog, own, verT, wr, md⟩ 171 = some 184 := by kernel_rfl
theorem t171_zok : Cfg.zerOK ⟨Try.prog, own, verT, wr, md⟩ 171 = true := by kernel_rfl
theorem t171_zer : Cfg.zer ⟨Try.prog, own, verT, wr, md⟩ 171 = some [.nil] := by kernel_rfl
theorem t171_some : (Try.prog.underlying 171).isSome = true := by kernel_rfl
theorem t182_csz : Cfg.csz ⟨Try.prog, own, verT, wr, md⟩ 182 = some 1 := by kernel_rfl
theorem t182_bts : Cfg.bts ⟨Try.prog, own, verT, wr, md⟩ 182 = some 24 := by kernel_rfl
theorem t182_ag : Cfg.isAg ⟨Try.prog, own, verT, wr, md⟩ 182 = some false := by kernel_rfl
theorem t182_str : Cfg.isStr ⟨Try.prog, own, verT, wr, md⟩ 182 = false := by kernel_rfl
theorem t182_elem : Cfg.elemT ⟨Try.prog, own, verT, wr, md⟩ 182 = some 3 := by kernel_rfl
theorem t182_zok : Cfg.zerOK ⟨Try.prog, own, verT, wr, md⟩ 182 = true := by kernel_rfl
theorem t182_zer : Cfg.zer ⟨Try.prog, own, verT, wr, md⟩ 182 = some [.nil] := by kernel_rfl
theorem t182_some : (Try.prog.underlying 182).isSome = true := by kernel_rfl
theorem t183_csz : Cfg.csz ⟨Try.prog, own, verT, wr, md⟩ 183 = some 3 := by kernel_rfl
theorem t183_bts : Cfg.bts ⟨Try.prog, own, verT, wr, md⟩ 183 = some 24 := by kernel_rfl
theorem t183_ag : Cfg.isAg ⟨Try.prog, own, verT, wr, md⟩ 183 = some true := by kernel_rfl
theorem t183_str : Cfg.isStr ⟨Try.prog, own, verT, wr, md⟩ 183 = false := by kernel_rfl
theorem t183_elem : Cfg.elemT ⟨Try.prog, own, verT, wr, md⟩ 183 = none := by kernel_rfl
theorem t183_zok : Cfg.zerOK ⟨Try.prog, own, verT, wr, md⟩ 183 = true := by kernel_rfl
theorem t183_zer : Cfg.zer ⟨Try.prog, own, verT, wr, md⟩ 183 = some [.v (.int .i64 0), .v (.int .i64 0), .v (.int .i64 0)] := by kernel_rfl
theorem t183_some : (Try.prog.underlying 183).isSome = true := by kernel_rfl
theorem t183_flds : Cfg.flds ⟨Try.prog, own, verT, wr, md⟩ 183 = some [(0, 1), (1, 1), (2, 1)] := by kernel_rfl
theorem t183_f0 : Cfg.foff ⟨Try.prog, own, verT, wr, md⟩ 183 0 = some (0, 2) := by kernel_rfl
theorem t183_f1 : Cfg.foff ⟨Try.prog, own, verT, wr, md⟩ 183 1 = some (1, 2) := by kernel_rfl
theorem t183_f2 : Cfg.foff ⟨Try.prog, own, verT, wr, md⟩ 183 2 = some (2, 2) := by kernel_rfl
theorem t184_csz : Cfg.csz ⟨Try.prog, own, verT, wr, md⟩ 184 = some 3 := by kernel_rfl
theorem t184_bts : Cfg.bts ⟨Try.prog, own, verT, wr, md⟩ 184 = some 24 := by kernel_rfl
theorem t184_ag : Cfg.isAg ⟨Try.prog, own, verT, wr, md⟩ 184 = some true := by kernel_rfl
theorem t184_str : Cfg.isStr ⟨Try.prog, own, verT, wr, md⟩ 184 = false := by kernel_rfl
theorem t184_elem : Cfg.elemT ⟨Try.prog, own, verT, wr, md⟩ 184 = none := by kernel_rfl
theorem t184_zok : Cfg.zerOK ⟨Try.prog, own, verT, wr, md⟩ 184 = true := by kernel_rfl
theorem t184_zer : Cfg.zer ⟨Try.prog, own, verT, wr, md⟩ 184 = some [.v (.int .i64 0), .v (.int .i64 0), .v (.int .i64 0)] := by kernel_rfl
theorem t184_some : (Try.prog.underlying 184).isSome = true := by kernel_rfl
theorem t184_flds : Cfg.flds ⟨Try.prog, own, verT, wr, md⟩ 184 = some [(0, 1), (1, 1), (2, 1)] := by kernel_rfl
theorem t184_f0 : Cfg.foff ⟨Try.prog, own, verT, wr, md⟩ 184 0 = some (0, 2) := by kernel_rfl
theorem t184_f1 : Cfg.foff ⟨Try.prog, own, verT, wr, md⟩ 184 1 = some (1, 2) := by kernel_rfl
theorem t184_f2 : Cfg.foff ⟨Try.prog, own, verT, wr, md⟩ 184 2 = some (2, 2) := by kernel_rfl
theorem t192_csz : Cfg.csz ⟨Try.prog, own, verT, wr, md⟩ 192 = some 1 := by kernel_rfl
theorem t192_bts : Cfg.bts ⟨Try.prog, own, verT, wr, md⟩ 192 = some 8 := by kernel_rfl
theorem t192_ag : Cfg.isAg ⟨Try.prog, own, verT, wr, md⟩ 192 = some false := by kernel_rfl
theorem t192_str : Cfg.isStr ⟨Try.prog, own, verT, wr, md⟩ 192 = false := by kernel_rfl
theorem t192_int : Cfg.intK ⟨Try.prog, own, verT, wr, md⟩ 192 = some .i64 := by kernel_rfl
theorem t192_elem : Cfg.elemT ⟨Try.prog, own, verT, wr, md⟩ 192 = none := by kernel_rfl
theorem t192_zok : Cfg.zerOK ⟨Try.prog, own, verT, wr, md⟩ 192 = true := by kernel_rfl
theorem t192_zer : Cfg.zer ⟨Try.prog, own, verT, wr, md⟩ 192 = some [.v (.int .i64 0)] := by kernel_rfl
theorem t192_some : (Try.prog.underlying 192).isSome = true := by kernel_rfl
theorem t201_csz : Cfg.csz ⟨Try.prog, own, verT, wr, md⟩ 201 = some 1 := by kernel_rfl
theorem t201_bts : Cfg.bts ⟨Try.prog, own, verT, wr, md⟩ 201 = some 4 := by kernel_rfl
theorem t201_ag : Cfg.isAg ⟨Try.prog, own, verT, wr, md⟩ 201 = some false := by kernel_rfl
theorem t201_str : Cfg.isStr ⟨Try.prog, own, verT, wr, md⟩ 201 = false := by kernel_rfl
theorem t201_int : Cfg.intK ⟨Try.prog, own, verT, wr, md⟩ 201 = some .u32 := by kernel_rfl
theorem t201_elem : Cfg.elemT ⟨Try.prog, own, verT, wr, md⟩ 201 = none := by kernel_rfl
theorem t201_zok : Cfg.zerOK ⟨Try.prog, own, verT, wr, md⟩ 201 = true := by kernel_rfl
theorem t201_zer : Cfg.zer ⟨Try.prog, own, verT, wr, md⟩ 201 = some [.v (.int .u32 0)] := by kernel_rfl
theorem t201_some : (Try.prog.underlying 201).isSome = true := by kernel_rfl
theorem t203_csz : Cfg.csz ⟨Try.prog, own, verT, wr, md⟩ 203 = some 1 := by kernel_rfl
theorem t203_bts : Cfg.bts ⟨Try.prog, own, verT, wr, md⟩ 203 = some 8 := by kernel_rfl
theorem t203_ag : Cfg.isAg ⟨Try.prog, own, verT, wr, md⟩ 203 = some false := by kernel_rfl
theorem t203_str : Cfg.isStr ⟨Try.prog, own, verT, wr, md⟩ 203 = false := by kernel_rfl
theorem t203_int : Cfg.intK ⟨Try.prog, own, verT, wr, md⟩ 203 = some .u64 := by kernel_rfl
theorem t203_elem : Cfg.elemT ⟨Try.prog, own, verT, wr, md⟩ 203 = none := by kernel_rfl
theorem t203_zok : Cfg.zerOK ⟨Try.prog, own, verT, wr, md⟩ 203 = true := by kernel_rfl
theorem t203_zer : Cfg.zer ⟨Try.prog, own, verT, wr, md⟩ 203 = some [.v (.int .u64 0)] := by kernel_rfl
theorem t203_some : (Try.prog.underlying 203).isSome = true := by kernel_rfl
theorem t204_csz : Cfg.csz ⟨Try.prog, own, verT, wr, md⟩ 204 = some 1 := by kernel_rfl
theorem t204_bts : Cfg.bts ⟨Try.prog, own, verT, wr, md⟩ 204 = some 8 := by kernel_rfl
theorem t204_ag : Cfg.isAg ⟨Try.prog, own, verT, wr, md⟩ 204 = some false := by kernel_rfl
theorem t204_str : Cfg.isStr ⟨Try.prog, own, verT, wr, md⟩ 204 = false := by kernel_rfl
theorem t204_int : Cfg.intK ⟨Try.prog, own, verT, wr, md⟩ 204 = some .u64 := by kernel_rfl
theorem t204_elem : Cfg.elemT ⟨Try.prog, own, verT, wr, md⟩ 204 = none := by kernel_rfl
theorem t204_zok : Cfg.zerOK ⟨Try.prog, own, verT, wr, md⟩ 204 = true := by kernel_rfl
theorem t204_zer : Cfg.zer ⟨Try.prog, own, verT, wr, md⟩ 204 = some [.v (.int .u64 0)] := by kernel_rfl
theorem t204_some : (Try.prog.underlying 204).isSome = true := by kernel_rfl
end
attribute [simp] t2_csz t2_bts t2_ag t2_str t2_int t2_elem t2_zok t2_zer t2_some t3_csz t3_bts t3_ag t3_str t3_int t3_elem t3_zok t3_zer t3_some t4_csz t4_bts t4_ag t4_str t4_bool t4_elem t4_zok t4_zer t4_some t5_csz t5_bts t5_ag t5_str t5_int t5_elem t5_zok t5_zer t5_some t6_csz t6_bts t6_ag t6_str
attribute [simp] t6_int t6_elem t6_zok t6_zer t6_some t7_csz t7_bts t7_ag t7_str t7_elem t7_zok t7_zer t7_some t7_flds t7_f0 t7_f1 t7_f2 t7_f3 t8_csz t8_bts t8_ag t8_str t8_elem t8_zok t8_zer t8_some t8_flds t8_f0 t8_f1 t8_f2 t8_f3 t9_csz t9_bts t9_ag t9_str t9_elem t9_zok t9_zer t9_some t10_csz
attribute [simp] t10_bts t10_ag t10_str t10_elem t10_zok t10_zer t10_some t11_csz t11_bts t11_ag t11_str t11_elem t11_zok t11_zer t11_some t12_csz t12_bts t12_ag t12_str t12_int t12_elem t12_zok t12_zer t12_some t13_csz t13_bts t13_ag t13_str t13_elem t13_zok t13_zer t13_some t13_flds t13_f0 t13_f1 t14_csz t14_bts t14_ag t14_str t14_elem
attribute [simp] t14_zok t14_zer t14_some t14_flds t14_f0 t14_f1 t21_csz t21_bts t21_ag t21_str t21_int t21_elem t21_zok t21_zer t21_some t22_csz t22_bts t22_ag t22_str t22_elem t22_zok t22_zer t22_some t22_flds t22_f0 t22_f1 t22_f2 t23_csz t23_bts t23_ag t23_str t23_elem t23_zok t23_zer t23_some t23_flds t23_f0 t23_f1 t23_f2 t24_csz
attribute [simp] t24_bts t24_ag t24_str t24_elem t24_zok t24_zer t24_some t25_csz t25_bts t25_ag t25_str t25_elem t25_zok t25_zer t25_some t26_csz t26_bts t26_ag t26_str t26_elem t26_zok t26_zer t26_some t27_csz t27_bts t27_ag t27_str t27_elem t27_zok t27_zer t27_some t27_flds t27_f0 t27_f1 t27_f2 t27_f3 t27_f4 t27_f5 t28_csz t28_bts
attribute [simp] t28_ag t28_str t28_elem t28_zok t28_zer t28_some t28_flds t28_f0 t28_f1 t28_f2 t28_f3 t28_f4 t28_f5 t31_csz t31_bts t31_ag t31_str t31_elem t31_zok t31_zer t31_some t31_flds t31_f0 t31_f1 t31_f2 t32_csz t32_bts t32_ag t32_str t32_elem t32_zok t32_zer t32_some t33_csz t33_bts t33_ag t33_str t33_elem t33_zok t33_zer
attribute [simp] t33_some t34_csz t34_bts t34_ag t34_str t34_elem t34_zok t34_zer t34_some t34_flds t34_f0 t34_f1 t34_f2 t34_f3 t34_f4 t34_f5 t35_csz t35_bts t35_ag t35_str t35_elem t35_zok t35_zer t35_some t35_flds t35_f0 t35_f1 t35_f2 t35_f3 t35_f4 t35_f5 t39_csz t39_bts t39_ag t39_str t39_elem t39_zok t39_zer t39_some t39_flds
attribute [simp] t39_f0 t39_f1 t39_f2 t40_csz t40_bts t40_ag t40_str t40_elem t40_zok t40_zer t40_some t40_flds t40_f0 t40_f1 t40_f2 t43_csz t43_bts t43_ag t43_str t43_elem t43_zok t43_zer t43_some t43_flds t43_f0 t43_f1 t43_f2 t44_csz t44_bts t44_ag t44_str t44_elem t44_zok t44_zer t44_some t44_flds t44_f0 t44_f1 t44_f2 t47_csz
attribute [simp] t47_bts t47_ag t47_str t47_elem t47_zok t47_zer t47_some t49_csz t49_bts t49_ag t49_str t49_elem t49_zok t49_zer t49_some t52_csz t52_bts t52_ag t52_str t52_elem t52_zok t52_zer t52_some t52_flds t52_f0 t52_f1 t53_csz t53_bts t53_ag t53_str t53_elem t53_zok t53_zer t53_some t53_flds t53_f0 t53_f1 t56_csz t56_bts t56_ag
attribute [simp] t56_str t56_elem t56_zok t56_zer t56_some t56_flds t56_f0 t56_f1 t57_csz t57_bts t57_ag t57_str t57_elem t57_zok t57_zer t57_some t57_flds t57_f0 t57_f1 t60_csz t60_bts t60_ag t60_str t60_elem t60_zok t60_zer t60_some t69_csz t69_bts t69_ag t69_str t69_elem t69_zok t69_zer t69_some t95_csz t95_bts t95_ag t95_str t95_elem
attribute [simp] t95_zok t95_zer t95_some t95_flds t95_f0 t95_f1 t95_f2 t96_csz t96_bts t96_ag t96_str t96_elem t96_zok t96_zer t96_some t96_flds t96_f0 t96_f1 t96_f2 t102_csz t102_bts t102_ag t102_str t102_elem t102_zok t102_zer t102_some t102_flds t102_f0 t102_f1 t103_csz t103_bts t103_ag t103_str t103_elem t103_zok t103_zer t103_some t103_flds t103_f0
attribute [simp] t103_f1 t139_csz t139_bts t139_ag t139_str t139_int t139_elem t139_zok t139_zer t139_some t159_csz t159_bts t159_ag t159_str t159_elem t159_zok t159_zer t159_some t159_flds t159_f0 t159_f1 t160_csz t160_bts t160_ag t160_str t160_elem t160_zok t160_zer t160_some t160_flds t160_f0 t160_f1 t171_csz t171_bts t171_ag t171_str t171_elem t171_zok t171_zer t171_some
attribute [simp] t182_csz t182_bts t182_ag t182_str t182_elem t182_zok t182_zer t182_some t183_csz t183_bts t183_ag t183_str t183_elem t183_zok t183_zer t183_some t183_flds t183_f0 t183_f1 t183_f2 t184_csz t184_bts t184_ag t184_str t184_elem t184_zok t184_zer t184_some t184_flds t184_f0 t184_f1 t184_f2 t192_csz t192_bts t192_ag t192_str t192_int t192_elem t192_zok t192_zer
attribute [simp] t192_some t201_csz t201_bts t201_ag t201_str t201_int t201_elem t201_zok t201_zer t201_some t203_csz t203_bts t203_ag t203_str t203_int t203_elem t203_zok t203_zer t203_some t204_csz t204_bts t204_ag t204_str t204_int t204_elem t204_zok t204_zer t204_some
end Go.Proofs.Ytbmfoijakgccgaa.Am
