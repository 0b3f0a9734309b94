/-
  The table of types of this translation, for SX; written by typegen.py.
-/
import Derived.Test.YtgjoileoekbkoaaProg
import Derived.Test.YtgjoileoekbkoaaSXQ
namespace Go.Proofs.Ytgjoileoekbkoaa
open Go.SX

/-- func() -/
def ty1 : TI := { k := .func, size := 1, zero := [.one .nilf], bytes := 8, ck := [] }
theorem ty1_ok : TI.ok Try.prog 1 ty1 := TI.mk_ok (by kernel_rfl) (by kernel_rfl) (by kernel_rfl) (by kernel_rfl) (by kernel_rfl) (by kernel_rfl)
/-- int64 -/
def ty2 : TI := { k := .int .i64, size := 1, zero := [.one (.v (.int .i64 0))], bytes := 8, ck := [.int .i64] }
theorem ty2_ok : TI.ok Try.prog 2 ty2 := TI.mk_ok (by kernel_rfl) (by kernel_rfl) (by kernel_rfl) (by kernel_rfl) (by kernel_rfl) (by kernel_rfl)
/-- int -/
def ty3 : TI := { k := .int .i64, size := 1, zero := [.one (.v (.int .i64 0))], bytes := 8, ck := [.int .i64] }
theorem ty3_ok : TI.ok Try.prog 3 ty3 := TI.mk_ok (by kernel_rfl) (by kernel_rfl) (by kernel_rfl) (by kernel_rfl) (by kernel_rfl) (by kernel_rfl)
/-- bool -/
def ty4 : TI := { k := .bool, size := 1, zero := [.one (.v (.bool false))], bytes := 1, ck := [.bool] }
theorem ty4_ok : TI.ok Try.prog 4 ty4 := TI.mk_ok (by kernel_rfl) (by kernel_rfl) (by kernel_rfl) (by kernel_rfl) (by kernel_rfl) (by kernel_rfl)
/-- uint8 -/
def ty5 : TI := { k := .int .u8, size := 1, zero := [.one (.v (.int .u8 0))], bytes := 1, ck := [.int .u8] }
theorem ty5_ok : TI.ok Try.prog 5 ty5 := TI.mk_ok (by kernel_rfl) (by kernel_rfl) (by kernel_rfl) (by kernel_rfl) (by kernel_rfl) (by kernel_rfl)
/-- string -/
def ty9 : TI := { k := .str, size := 1, zero := [.one (.v (.string ByteArray.empty))], bytes := 16, ck := [.str] }
theorem ty9_ok : TI.ok Try.prog 9 ty9 := TI.mk_ok (by kernel_rfl) (by kernel_rfl) (by kernel_rfl) (by kernel_rfl) (by kernel_rfl) (by kernel_rfl)
/-- uintptr -/
def ty12 : TI := { k := .int .u64, size := 1, zero := [.one (.v (.int .u64 0))], bytes := 8, ck := [.int .u64] }
theorem ty12_ok : TI.ok Try.prog 12 ty12 := TI.mk_ok (by kernel_rfl) (by kernel_rfl) (by kernel_rfl) (by kernel_rfl) (by kernel_rfl) (by kernel_rfl)
/-- struct { msg string; addr uintptr } -/
def ty13 : TI := { k := .struct [(0, 9), (1, 12)], size := 2, zero := [.one (.v (.string ByteArray.empty)), .one (.v (.int .u64 0))], bytes := 24, ck := [.str, .int .u64] }
theorem ty13_ok : TI.ok Try.prog 13 ty13 := TI.mk_ok (by kernel_rfl) (by kernel_rfl) (by kernel_rfl) (by kernel_rfl) (by kernel_rfl) (by kernel_rfl)
/-- int32 -/
def ty21 : TI := { k := .int .i32, size := 1, zero := [.one (.v (.int .i32 0))], bytes := 4, ck := [.int .i32] }
theorem ty21_ok : TI.ok Try.prog 21 ty21 := TI.mk_ok (by kernel_rfl) (by kernel_rfl) (by kernel_rfl) (by kernel_rfl) (by kernel_rfl) (by kernel_rfl)
/-- []almonerlaw16.Op -/
def ty22 : TI := { k := .slice 44, size := 1, zero := [.one .nils], bytes := 24, ck := [.slc] }
theorem ty22_ok : TI.ok Try.prog 22 ty22 := TI.mk_ok (by kernel_rfl) (by kernel_rfl) (by kernel_rfl) (by kernel_rfl) (by kernel_rfl) (by kernel_rfl)
/-- *mover.Mover -/
def ty23 : TI := { k := .ptr, size := 1, zero := [.one .nilp], bytes := 8, ck := [.ptr] }
theorem ty23_ok : TI.ok Try.prog 23 ty23 := TI.mk_ok (by kernel_rfl) (by kernel_rfl) (by kernel_rfl) (by kernel_rfl) (by kernel_rfl) (by kernel_rfl)
/-- func() *mover.Mover -/
def ty24 : TI := { k := .func, size := 1, zero := [.one .nilf], bytes := 8, ck := [] }
theorem ty24_ok : TI.ok Try.prog 24 ty24 := TI.mk_ok (by kernel_rfl) (by kernel_rfl) (by kernel_rfl) (by kernel_rfl) (by kernel_rfl) (by kernel_rfl)
/-- *almonerref16.Mover -/
def ty25 : TI := { k := .ptr, size := 1, zero := [.one .nilp], bytes := 8, ck := [.ptr] }
theorem ty25_ok : TI.ok Try.prog 25 ty25 := TI.mk_ok (by kernel_rfl) (by kernel_rfl) (by kernel_rfl) (by kernel_rfl) (by kernel_rfl) (by kernel_rfl)
/-- []uint8 -/
def ty26 : TI := { k := .slice 5, size := 1, zero := [.one .nils], bytes := 24, ck := [.slc] }
theorem ty26_ok : TI.ok Try.prog 26 ty26 := TI.mk_ok (by kernel_rfl) (by kernel_rfl) (by kernel_rfl) (by kernel_rfl) (by kernel_rfl) (by kernel_rfl)
/-- struct { N int64; Has bool; Data []uint8; At int } -/
def ty27 : TI := { k := .struct [(0, 2), (1, 4), (2, 26), (3, 3)], size := 4, zero := [.one (.v (.int .i64 0)), .one (.v (.bool false)), .one .nils, .one (.v (.int .i64 0))], bytes := 48, ck := [.int .i64, .bool, .slc, .int .i64] }
theorem ty27_ok : TI.ok Try.prog 27 ty27 := TI.mk_ok (by kernel_rfl) (by kernel_rfl) (by kernel_rfl) (by kernel_rfl) (by kernel_rfl) (by kernel_rfl)
/-- almonerref16.Mover -/
def ty28 : TI := { k := .struct [(0, 2), (1, 4), (2, 26), (3, 3)], size := 4, zero := [.one (.v (.int .i64 0)), .one (.v (.bool false)), .one .nils, .one (.v (.int .i64 0))], bytes := 48, ck := [.int .i64, .bool, .slc, .int .i64] }
theorem ty28_ok : TI.ok Try.prog 28 ty28 := TI.mk_ok (by kernel_rfl) (by kernel_rfl) (by kernel_rfl) (by kernel_rfl) (by kernel_rfl) (by kernel_rfl)
/-- struct { Kind int; From string; To string; Amount int64; Key string; Slot int; Shard int } -/
def ty29 : TI := { k := .struct [(0, 3), (1, 9), (2, 9), (3, 2), (4, 9), (5, 3), (6, 3)], size := 7, zero := [.one (.v (.int .i64 0)), .one (.v (.string ByteArray.empty)), .one (.v (.string ByteArray.empty)), .one (.v (.int .i64 0)), .one (.v (.string ByteArray.empty)), .one (.v (.int .i64 0)), .one (.v (.int .i64 0))], bytes := 80, ck := [.int .i64, .str, .str, .int .i64, .str, .int .i64, .int .i64] }
theorem ty29_ok : TI.ok Try.prog 29 ty29 := TI.mk_ok (by kernel_rfl) (by kernel_rfl) (by kernel_rfl) (by kernel_rfl) (by kernel_rfl) (by kernel_rfl)
/-- api.Op -/
def ty30 : TI := { k := .struct [(0, 3), (1, 9), (2, 9), (3, 2), (4, 9), (5, 3), (6, 3)], size := 7, zero := [.one (.v (.int .i64 0)), .one (.v (.string ByteArray.empty)), .one (.v (.string ByteArray.empty)), .one (.v (.int .i64 0)), .one (.v (.string ByteArray.empty)), .one (.v (.int .i64 0)), .one (.v (.int .i64 0))], bytes := 80, ck := [.int .i64, .str, .str, .int .i64, .str, .int .i64, .int .i64] }
theorem ty30_ok : TI.ok Try.prog 30 ty30 := TI.mk_ok (by kernel_rfl) (by kernel_rfl) (by kernel_rfl) (by kernel_rfl) (by kernel_rfl) (by kernel_rfl)
/-- api.Errno -/
def ty31 : TI := { k := .int .i64, size := 1, zero := [.one (.v (.int .i64 0))], bytes := 8, ck := [.int .i64] }
theorem ty31_ok : TI.ok Try.prog 31 ty31 := TI.mk_ok (by kernel_rfl) (by kernel_rfl) (by kernel_rfl) (by kernel_rfl) (by kernel_rfl) (by kernel_rfl)
/-- struct { Kind int; Op api.Op; Id string; Name string; N int64; Why api.Errno; Slot int; Epoch int64; At int; Last bool; Data []uint8 } -/
def ty32 : TI := { k := .struct [(0, 3), (1, 30), (8, 9), (9, 9), (10, 2), (11, 31), (12, 3), (13, 2), (14, 3), (15, 4), (16, 26)], size := 17, zero := [.one (.v (.int .i64 0)), .one (.v (.int .i64 0)), .one (.v (.string ByteArray.empty)), .one (.v (.string ByteArray.empty)), .one (.v (.int .i64 0)), .one (.v (.string ByteArray.empty)), .one (.v (.int .i64 0)), .one (.v (.int .i64 0)), .one (.v (.string ByteArray.empty)), .one (.v (.string ByteArray.empty)), .one (.v (.int .i64 0)), .one (.v (.int .i64 0)), .one (.v (.int .i64 0)), .one (.v (.int .i64 0)), .one (.v (.int .i64 0)), .one (.v (.bool false)), .one .nils], bytes := 192, ck := [.int .i64, .int .i64, .str, .str, .int .i64, .str, .int .i64, .int .i64, .str, .str, .int .i64, .int .i64, .int .i64, .int .i64, .int .i64, .bool, .slc] }
theorem ty32_ok : TI.ok Try.prog 32 ty32 := TI.mk_ok (by kernel_rfl) (by kernel_rfl) (by kernel_rfl) (by kernel_rfl) (by kernel_rfl) (by kernel_rfl)
/-- almonerref13.Cmd -/
def ty33 : TI := { k := .struct [(0, 3), (1, 30), (8, 9), (9, 9), (10, 2), (11, 31), (12, 3), (13, 2), (14, 3), (15, 4), (16, 26)], size := 17, zero := [.one (.v (.int .i64 0)), .one (.v (.int .i64 0)), .one (.v (.string ByteArray.empty)), .one (.v (.string ByteArray.empty)), .one (.v (.int .i64 0)), .one (.v (.string ByteArray.empty)), .one (.v (.int .i64 0)), .one (.v (.int .i64 0)), .one (.v (.string ByteArray.empty)), .one (.v (.string ByteArray.empty)), .one (.v (.int .i64 0)), .one (.v (.int .i64 0)), .one (.v (.int .i64 0)), .one (.v (.int .i64 0)), .one (.v (.int .i64 0)), .one (.v (.bool false)), .one .nils], bytes := 192, ck := [.int .i64, .int .i64, .str, .str, .int .i64, .str, .int .i64, .int .i64, .str, .str, .int .i64, .int .i64, .int .i64, .int .i64, .int .i64, .bool, .slc] }
theorem ty33_ok : TI.ok Try.prog 33 ty33 := TI.mk_ok (by kernel_rfl) (by kernel_rfl) (by kernel_rfl) (by kernel_rfl) (by kernel_rfl) (by kernel_rfl)
/-- struct { Group int; Cmd almonerref13.Cmd } -/
def ty34 : TI := { k := .struct [(0, 3), (1, 33)], size := 18, zero := [.one (.v (.int .i64 0)), .one (.v (.int .i64 0)), .one (.v (.int .i64 0)), .one (.v (.string ByteArray.empty)), .one (.v (.string ByteArray.empty)), .one (.v (.int .i64 0)), .one (.v (.string ByteArray.empty)), .one (.v (.int .i64 0)), .one (.v (.int .i64 0)), .one (.v (.string ByteArray.empty)), .one (.v (.string ByteArray.empty)), .one (.v (.int .i64 0)), .one (.v (.int .i64 0)), .one (.v (.int .i64 0)), .one (.v (.int .i64 0)), .one (.v (.int .i64 0)), .one (.v (.bool false)), .one .nils], bytes := 200, ck := [.int .i64, .int .i64, .int .i64, .str, .str, .int .i64, .str, .int .i64, .int .i64, .str, .str, .int .i64, .int .i64, .int .i64, .int .i64, .int .i64, .bool, .slc] }
theorem ty34_ok : TI.ok Try.prog 34 ty34 := TI.mk_ok (by kernel_rfl) (by kernel_rfl) (by kernel_rfl) (by kernel_rfl) (by kernel_rfl) (by kernel_rfl)
/-- almonerref15.Ask -/
def ty35 : TI := { k := .struct [(0, 3), (1, 33)], size := 18, zero := [.one (.v (.int .i64 0)), .one (.v (.int .i64 0)), .one (.v (.int .i64 0)), .one (.v (.string ByteArray.empty)), .one (.v (.string ByteArray.empty)), .one (.v (.int .i64 0)), .one (.v (.string ByteArray.empty)), .one (.v (.int .i64 0)), .one (.v (.int .i64 0)), .one (.v (.string ByteArray.empty)), .one (.v (.string ByteArray.empty)), .one (.v (.int .i64 0)), .one (.v (.int .i64 0)), .one (.v (.int .i64 0)), .one (.v (.int .i64 0)), .one (.v (.int .i64 0)), .one (.v (.bool false)), .one .nils], bytes := 200, ck := [.int .i64, .int .i64, .int .i64, .str, .str, .int .i64, .str, .int .i64, .int .i64, .str, .str, .int .i64, .int .i64, .int .i64, .int .i64, .int .i64, .bool, .slc] }
theorem ty35_ok : TI.ok Try.prog 35 ty35 := TI.mk_ok (by kernel_rfl) (by kernel_rfl) (by kernel_rfl) (by kernel_rfl) (by kernel_rfl) (by kernel_rfl)
/-- struct { Slot int; From int; To int; Epoch int64; Phase int; N int64 } -/
def ty36 : TI := { k := .struct [(0, 3), (1, 3), (2, 3), (3, 2), (4, 3), (5, 2)], size := 6, zero := [.one (.v (.int .i64 0)), .one (.v (.int .i64 0)), .one (.v (.int .i64 0)), .one (.v (.int .i64 0)), .one (.v (.int .i64 0)), .one (.v (.int .i64 0))], bytes := 48, ck := [.int .i64, .int .i64, .int .i64, .int .i64, .int .i64, .int .i64] }
theorem ty36_ok : TI.ok Try.prog 36 ty36 := TI.mk_ok (by kernel_rfl) (by kernel_rfl) (by kernel_rfl) (by kernel_rfl) (by kernel_rfl) (by kernel_rfl)
/-- almonerref14.Moving -/
def ty37 : TI := { k := .struct [(0, 3), (1, 3), (2, 3), (3, 2), (4, 3), (5, 2)], size := 6, zero := [.one (.v (.int .i64 0)), .one (.v (.int .i64 0)), .one (.v (.int .i64 0)), .one (.v (.int .i64 0)), .one (.v (.int .i64 0)), .one (.v (.int .i64 0))], bytes := 48, ck := [.int .i64, .int .i64, .int .i64, .int .i64, .int .i64, .int .i64] }
theorem ty37_ok : TI.ok Try.prog 37 ty37 := TI.mk_ok (by kernel_rfl) (by kernel_rfl) (by kernel_rfl) (by kernel_rfl) (by kernel_rfl) (by kernel_rfl)
/-- []api.Row -/
def ty38 : TI := { k := .slice 100, size := 1, zero := [.one .nils], bytes := 24, ck := [.slc] }
theorem ty38_ok : TI.ok Try.prog 38 ty38 := TI.mk_ok (by kernel_rfl) (by kernel_rfl) (by kernel_rfl) (by kernel_rfl) (by kernel_rfl) (by kernel_rfl)
/-- struct { Why api.Errno; Amount int64; Rows []api.Row } -/
def ty39 : TI := { k := .struct [(0, 31), (1, 2), (2, 38)], size := 3, zero := [.one (.v (.int .i64 0)), .one (.v (.int .i64 0)), .one .nils], bytes := 40, ck := [.int .i64, .int .i64, .slc] }
theorem ty39_ok : TI.ok Try.prog 39 ty39 := TI.mk_ok (by kernel_rfl) (by kernel_rfl) (by kernel_rfl) (by kernel_rfl) (by kernel_rfl) (by kernel_rfl)
/-- api.Reply -/
def ty40 : TI := { k := .struct [(0, 31), (1, 2), (2, 38)], size := 3, zero := [.one (.v (.int .i64 0)), .one (.v (.int .i64 0)), .one .nils], bytes := 40, ck := [.int .i64, .int .i64, .slc] }
theorem ty40_ok : TI.ok Try.prog 40 ty40 := TI.mk_ok (by kernel_rfl) (by kernel_rfl) (by kernel_rfl) (by kernel_rfl) (by kernel_rfl) (by kernel_rfl)
/-- struct { Why api.Errno; Wait bool; Reply api.Reply; Data []uint8 } -/
def ty41 : TI := { k := .struct [(0, 31), (1, 4), (2, 40), (5, 26)], size := 6, zero := [.one (.v (.int .i64 0)), .one (.v (.bool false)), .one (.v (.int .i64 0)), .one (.v (.int .i64 0)), .one .nils, .one .nils], bytes := 80, ck := [.int .i64, .bool, .int .i64, .int .i64, .slc, .slc] }
theorem ty41_ok : TI.ok Try.prog 41 ty41 := TI.mk_ok (by kernel_rfl) (by kernel_rfl) (by kernel_rfl) (by kernel_rfl) (by kernel_rfl) (by kernel_rfl)
/-- almonerref13.Result -/
def ty42 : TI := { k := .struct [(0, 31), (1, 4), (2, 40), (5, 26)], size := 6, zero := [.one (.v (.int .i64 0)), .one (.v (.bool false)), .one (.v (.int .i64 0)), .one (.v (.int .i64 0)), .one .nils, .one .nils], bytes := 80, ck := [.int .i64, .bool, .int .i64, .int .i64, .slc, .slc] }
theorem ty42_ok : TI.ok Try.prog 42 ty42 := TI.mk_ok (by kernel_rfl) (by kernel_rfl) (by kernel_rfl) (by kernel_rfl) (by kernel_rfl) (by kernel_rfl)
/-- struct { Kind int; M almonerref14.Moving; A almonerref15.Ask; R almonerref13.Result } -/
def ty43 : TI := { k := .struct [(0, 3), (1, 37), (7, 35), (25, 42)], size := 31, zero := [.one (.v (.int .i64 0)), .one (.v (.int .i64 0)), .one (.v (.int .i64 0)), .one (.v (.int .i64 0)), .one (.v (.int .i64 0)), .one (.v (.int .i64 0)), .one (.v (.int .i64 0)), .one (.v (.int .i64 0)), .one (.v (.int .i64 0)), .one (.v (.int .i64 0)), .one (.v (.string ByteArray.empty)), .one (.v (.string ByteArray.empty)), .one (.v (.int .i64 0)), .one (.v (.string ByteArray.empty)), .one (.v (.int .i64 0)), .one (.v (.int .i64 0)), .one (.v (.string ByteArray.empty)), .one (.v (.string ByteArray.empty)), .one (.v (.int .i64 0)), .one (.v (.int .i64 0)), .one (.v (.int .i64 0)), .one (.v (.int .i64 0)), .one (.v (.int .i64 0)), .one (.v (.bool false)), .one .nils, .one (.v (.int .i64 0)), .one (.v (.bool false)), .one (.v (.int .i64 0)), .one (.v (.int .i64 0)), .one .nils, .one .nils], bytes := 336, ck := [.int .i64, .int .i64, .int .i64, .int .i64, .int .i64, .int .i64, .int .i64, .int .i64, .int .i64, .int .i64, .str, .str, .int .i64, .str, .int .i64, .int .i64, .str, .str, .int .i64, .int .i64, .int .i64, .int .i64, .int .i64, .bool, .slc, .int .i64, .bool, .int .i64, .int .i64, .slc, .slc] }
theorem ty43_ok : TI.ok Try.prog 43 ty43 := TI.mk_ok (by kernel_rfl) (by kernel_rfl) (by kernel_rfl) (by kernel_rfl) (by kernel_rfl) (by kernel_rfl)
/-- almonerlaw16.Op -/
def ty44 : TI := { k := .struct [(0, 3), (1, 37), (7, 35), (25, 42)], size := 31, zero := [.one (.v (.int .i64 0)), .one (.v (.int .i64 0)), .one (.v (.int .i64 0)), .one (.v (.int .i64 0)), .one (.v (.int .i64 0)), .one (.v (.int .i64 0)), .one (.v (.int .i64 0)), .one (.v (.int .i64 0)), .one (.v (.int .i64 0)), .one (.v (.int .i64 0)), .one (.v (.string ByteArray.empty)), .one (.v (.string ByteArray.empty)), .one (.v (.int .i64 0)), .one (.v (.string ByteArray.empty)), .one (.v (.int .i64 0)), .one (.v (.int .i64 0)), .one (.v (.string ByteArray.empty)), .one (.v (.string ByteArray.empty)), .one (.v (.int .i64 0)), .one (.v (.int .i64 0)), .one (.v (.int .i64 0)), .one (.v (.int .i64 0)), .one (.v (.int .i64 0)), .one (.v (.bool false)), .one .nils, .one (.v (.int .i64 0)), .one (.v (.bool false)), .one (.v (.int .i64 0)), .one (.v (.int .i64 0)), .one .nils, .one .nils], bytes := 336, ck := [.int .i64, .int .i64, .int .i64, .int .i64, .int .i64, .int .i64, .int .i64, .int .i64, .int .i64, .int .i64, .str, .str, .int .i64, .str, .int .i64, .int .i64, .str, .str, .int .i64, .int .i64, .int .i64, .int .i64, .int .i64, .bool, .slc, .int .i64, .bool, .int .i64, .int .i64, .slc, .slc] }
theorem ty44_ok : TI.ok Try.prog 44 ty44 := TI.mk_ok (by kernel_rfl) (by kernel_rfl) (by kernel_rfl) (by kernel_rfl) (by kernel_rfl) (by kernel_rfl)
/-- []txn.Ask -/
def ty45 : TI := { k := .slice 54, size := 1, zero := [.one .nils], bytes := 24, ck := [.slc] }
theorem ty45_ok : TI.ok Try.prog 45 ty45 := TI.mk_ok (by kernel_rfl) (by kernel_rfl) (by kernel_rfl) (by kernel_rfl) (by kernel_rfl) (by kernel_rfl)
/-- func(*mover.Mover, chart.Moving) []txn.Ask -/
def ty46 : TI := { k := .func, size := 1, zero := [.one .nilf], bytes := 8, ck := [] }
theorem ty46_ok : TI.ok Try.prog 46 ty46 := TI.mk_ok (by kernel_rfl) (by kernel_rfl) (by kernel_rfl) (by kernel_rfl) (by kernel_rfl) (by kernel_rfl)
/-- chart.Moving -/
def ty47 : TI := { k := .struct [(0, 3), (1, 3), (2, 3), (3, 2), (4, 3), (5, 2)], size := 6, zero := [.one (.v (.int .i64 0)), .one (.v (.int .i64 0)), .one (.v (.int .i64 0)), .one (.v (.int .i64 0)), .one (.v (.int .i64 0)), .one (.v (.int .i64 0))], bytes := 48, ck := [.int .i64, .int .i64, .int .i64, .int .i64, .int .i64, .int .i64] }
theorem ty47_ok : TI.ok Try.prog 47 ty47 := TI.mk_ok (by kernel_rfl) (by kernel_rfl) (by kernel_rfl) (by kernel_rfl) (by kernel_rfl) (by kernel_rfl)
/-- func(almonerref14.Moving) chart.Moving -/
def ty48 : TI := { k := .func, size := 1, zero := [.one .nilf], bytes := 8, ck := [] }
theorem ty48_ok : TI.ok Try.prog 48 ty48 := TI.mk_ok (by kernel_rfl) (by kernel_rfl) (by kernel_rfl) (by kernel_rfl) (by kernel_rfl) (by kernel_rfl)
/-- []almonerref15.Ask -/
def ty49 : TI := { k := .slice 35, size := 1, zero := [.one .nils], bytes := 24, ck := [.slc] }
theorem ty49_ok : TI.ok Try.prog 49 ty49 := TI.mk_ok (by kernel_rfl) (by kernel_rfl) (by kernel_rfl) (by kernel_rfl) (by kernel_rfl) (by kernel_rfl)
/-- func(almonerref14.Moving) []almonerref15.Ask -/
def ty50 : TI := { k := .func, size := 1, zero := [.one .nilf], bytes := 8, ck := [] }
theorem ty50_ok : TI.ok Try.prog 50 ty50 := TI.mk_ok (by kernel_rfl) (by kernel_rfl) (by kernel_rfl) (by kernel_rfl) (by kernel_rfl) (by kernel_rfl)
/-- func(almonerref15.Ask, almonerref15.Ask) bool -/
def ty51 : TI := { k := .func, size := 1, zero := [.one .nilf], bytes := 8, ck := [] }
theorem ty51_ok : TI.ok Try.prog 51 ty51 := TI.mk_ok (by kernel_rfl) (by kernel_rfl) (by kernel_rfl) (by kernel_rfl) (by kernel_rfl) (by kernel_rfl)
/-- shard.Cmd -/
def ty52 : TI := { k := .struct [(0, 3), (1, 30), (8, 9), (9, 9), (10, 2), (11, 31), (12, 3), (13, 2), (14, 3), (15, 4), (16, 26)], size := 17, zero := [.one (.v (.int .i64 0)), .one (.v (.int .i64 0)), .one (.v (.string ByteArray.empty)), .one (.v (.string ByteArray.empty)), .one (.v (.int .i64 0)), .one (.v (.string ByteArray.empty)), .one (.v (.int .i64 0)), .one (.v (.int .i64 0)), .one (.v (.string ByteArray.empty)), .one (.v (.string ByteArray.empty)), .one (.v (.int .i64 0)), .one (.v (.int .i64 0)), .one (.v (.int .i64 0)), .one (.v (.int .i64 0)), .one (.v (.int .i64 0)), .one (.v (.bool false)), .one .nils], bytes := 192, ck := [.int .i64, .int .i64, .str, .str, .int .i64, .str, .int .i64, .int .i64, .str, .str, .int .i64, .int .i64, .int .i64, .int .i64, .int .i64, .bool, .slc] }
theorem ty52_ok : TI.ok Try.prog 52 ty52 := TI.mk_ok (by kernel_rfl) (by kernel_rfl) (by kernel_rfl) (by kernel_rfl) (by kernel_rfl) (by kernel_rfl)
/-- struct { Group int; Cmd shard.Cmd } -/
def ty53 : TI := { k := .struct [(0, 3), (1, 52)], size := 18, zero := [.one (.v (.int .i64 0)), .one (.v (.int .i64 0)), .one (.v (.int .i64 0)), .one (.v (.string ByteArray.empty)), .one (.v (.string ByteArray.empty)), .one (.v (.int .i64 0)), .one (.v (.string ByteArray.empty)), .one (.v (.int .i64 0)), .one (.v (.int .i64 0)), .one (.v (.string ByteArray.empty)), .one (.v (.string ByteArray.empty)), .one (.v (.int .i64 0)), .one (.v (.int .i64 0)), .one (.v (.int .i64 0)), .one (.v (.int .i64 0)), .one (.v (.int .i64 0)), .one (.v (.bool false)), .one .nils], bytes := 200, ck := [.int .i64, .int .i64, .int .i64, .str, .str, .int .i64, .str, .int .i64, .int .i64, .str, .str, .int .i64, .int .i64, .int .i64, .int .i64, .int .i64, .bool, .slc] }
theorem ty53_ok : TI.ok Try.prog 53 ty53 := TI.mk_ok (by kernel_rfl) (by kernel_rfl) (by kernel_rfl) (by kernel_rfl) (by kernel_rfl) (by kernel_rfl)
/-- txn.Ask -/
def ty54 : TI := { k := .struct [(0, 3), (1, 52)], size := 18, zero := [.one (.v (.int .i64 0)), .one (.v (.int .i64 0)), .one (.v (.int .i64 0)), .one (.v (.string ByteArray.empty)), .one (.v (.string ByteArray.empty)), .one (.v (.int .i64 0)), .one (.v (.string ByteArray.empty)), .one (.v (.int .i64 0)), .one (.v (.int .i64 0)), .one (.v (.string ByteArray.empty)), .one (.v (.string ByteArray.empty)), .one (.v (.int .i64 0)), .one (.v (.int .i64 0)), .one (.v (.int .i64 0)), .one (.v (.int .i64 0)), .one (.v (.int .i64 0)), .one (.v (.bool false)), .one .nils], bytes := 200, ck := [.int .i64, .int .i64, .int .i64, .str, .str, .int .i64, .str, .int .i64, .int .i64, .str, .str, .int .i64, .int .i64, .int .i64, .int .i64, .int .i64, .bool, .slc] }
theorem ty54_ok : TI.ok Try.prog 54 ty54 := TI.mk_ok (by kernel_rfl) (by kernel_rfl) (by kernel_rfl) (by kernel_rfl) (by kernel_rfl) (by kernel_rfl)
/-- func(shard.Cmd) almonerref13.Cmd -/
def ty55 : TI := { k := .func, size := 1, zero := [.one .nilf], bytes := 8, ck := [] }
theorem ty55_ok : TI.ok Try.prog 55 ty55 := TI.mk_ok (by kernel_rfl) (by kernel_rfl) (by kernel_rfl) (by kernel_rfl) (by kernel_rfl) (by kernel_rfl)
/-- func([]uint8) -/
def ty56 : TI := { k := .func, size := 1, zero := [.one .nilf], bytes := 8, ck := [] }
theorem ty56_ok : TI.ok Try.prog 56 ty56 := TI.mk_ok (by kernel_rfl) (by kernel_rfl) (by kernel_rfl) (by kernel_rfl) (by kernel_rfl) (by kernel_rfl)
/-- shard.Result -/
def ty57 : TI := { k := .struct [(0, 31), (1, 4), (2, 40), (5, 26)], size := 6, zero := [.one (.v (.int .i64 0)), .one (.v (.bool false)), .one (.v (.int .i64 0)), .one (.v (.int .i64 0)), .one .nils, .one .nils], bytes := 80, ck := [.int .i64, .bool, .int .i64, .int .i64, .slc, .slc] }
theorem ty57_ok : TI.ok Try.prog 57 ty57 := TI.mk_ok (by kernel_rfl) (by kernel_rfl) (by kernel_rfl) (by kernel_rfl) (by kernel_rfl) (by kernel_rfl)
/-- func(almonerref13.Result) shard.Result -/
def ty58 : TI := { k := .func, size := 1, zero := [.one .nilf], bytes := 8, ck := [] }
theorem ty58_ok : TI.ok Try.prog 58 ty58 := TI.mk_ok (by kernel_rfl) (by kernel_rfl) (by kernel_rfl) (by kernel_rfl) (by kernel_rfl) (by kernel_rfl)
/-- struct { Kind int; Slot int; Shard int; N int64; Phase int } -/
def ty59 : TI := { k := .struct [(0, 3), (1, 3), (2, 3), (3, 2), (4, 3)], size := 5, zero := [.one (.v (.int .i64 0)), .one (.v (.int .i64 0)), .one (.v (.int .i64 0)), .one (.v (.int .i64 0)), .one (.v (.int .i64 0))], bytes := 40, ck := [.int .i64, .int .i64, .int .i64, .int .i64, .int .i64] }
theorem ty59_ok : TI.ok Try.prog 59 ty59 := TI.mk_ok (by kernel_rfl) (by kernel_rfl) (by kernel_rfl) (by kernel_rfl) (by kernel_rfl) (by kernel_rfl)
/-- chart.Cmd -/
def ty60 : TI := { k := .struct [(0, 3), (1, 3), (2, 3), (3, 2), (4, 3)], size := 5, zero := [.one (.v (.int .i64 0)), .one (.v (.int .i64 0)), .one (.v (.int .i64 0)), .one (.v (.int .i64 0)), .one (.v (.int .i64 0))], bytes := 40, ck := [.int .i64, .int .i64, .int .i64, .int .i64, .int .i64] }
theorem ty60_ok : TI.ok Try.prog 60 ty60 := TI.mk_ok (by kernel_rfl) (by kernel_rfl) (by kernel_rfl) (by kernel_rfl) (by kernel_rfl) (by kernel_rfl)
/-- func(chart.Moving, txn.Ask, shard.Result) (chart.Cmd, bool) -/
def ty62 : TI := { k := .func, size := 1, zero := [.one .nilf], bytes := 8, ck := [] }
theorem ty62_ok : TI.ok Try.prog 62 ty62 := TI.mk_ok (by kernel_rfl) (by kernel_rfl) (by kernel_rfl) (by kernel_rfl) (by kernel_rfl) (by kernel_rfl)
/-- func(almonerref13.Cmd) shard.Cmd -/
def ty63 : TI := { k := .func, size := 1, zero := [.one .nilf], bytes := 8, ck := [] }
theorem ty63_ok : TI.ok Try.prog 63 ty63 := TI.mk_ok (by kernel_rfl) (by kernel_rfl) (by kernel_rfl) (by kernel_rfl) (by kernel_rfl) (by kernel_rfl)
/-- almonerref14.Cmd -/
def ty64 : TI := { k := .struct [(0, 3), (1, 3), (2, 3), (3, 2), (4, 3)], size := 5, zero := [.one (.v (.int .i64 0)), .one (.v (.int .i64 0)), .one (.v (.int .i64 0)), .one (.v (.int .i64 0)), .one (.v (.int .i64 0))], bytes := 40, ck := [.int .i64, .int .i64, .int .i64, .int .i64, .int .i64] }
theorem ty64_ok : TI.ok Try.prog 64 ty64 := TI.mk_ok (by kernel_rfl) (by kernel_rfl) (by kernel_rfl) (by kernel_rfl) (by kernel_rfl) (by kernel_rfl)
/-- func(almonerref14.Moving, almonerref15.Ask, almonerref13.Result) (almonerref14.Cmd, bool) -/
def ty66 : TI := { k := .func, size := 1, zero := [.one .nilf], bytes := 8, ck := [] }
theorem ty66_ok : TI.ok Try.prog 66 ty66 := TI.mk_ok (by kernel_rfl) (by kernel_rfl) (by kernel_rfl) (by kernel_rfl) (by kernel_rfl) (by kernel_rfl)
/-- func() int -/
def ty67 : TI := { k := .func, size := 1, zero := [.one .nilf], bytes := 8, ck := [] }
theorem ty67_ok : TI.ok Try.prog 67 ty67 := TI.mk_ok (by kernel_rfl) (by kernel_rfl) (by kernel_rfl) (by kernel_rfl) (by kernel_rfl) (by kernel_rfl)
/-- func() bool -/
def ty68 : TI := { k := .func, size := 1, zero := [.one .nilf], bytes := 8, ck := [] }
theorem ty68_ok : TI.ok Try.prog 68 ty68 := TI.mk_ok (by kernel_rfl) (by kernel_rfl) (by kernel_rfl) (by kernel_rfl) (by kernel_rfl) (by kernel_rfl)
/-- func([]almonerlaw16.Op) bool -/
def ty69 : TI := { k := .func, size := 1, zero := [.one .nilf], bytes := 8, ck := [] }
theorem ty69_ok : TI.ok Try.prog 69 ty69 := TI.mk_ok (by kernel_rfl) (by kernel_rfl) (by kernel_rfl) (by kernel_rfl) (by kernel_rfl) (by kernel_rfl)
/-- struct { n int64; data []uint8; at int } -/
def ty70 : TI := { k := .struct [(0, 2), (1, 26), (2, 3)], size := 3, zero := [.one (.v (.int .i64 0)), .one .nils, .one (.v (.int .i64 0))], bytes := 40, ck := [.int .i64, .slc, .int .i64] }
theorem ty70_ok : TI.ok Try.prog 70 ty70 := TI.mk_ok (by kernel_rfl) (by kernel_rfl) (by kernel_rfl) (by kernel_rfl) (by kernel_rfl) (by kernel_rfl)
/-- mover.Mover -/
def ty71 : TI := { k := .struct [(0, 2), (1, 26), (2, 3)], size := 3, zero := [.one (.v (.int .i64 0)), .one .nils, .one (.v (.int .i64 0))], bytes := 40, ck := [.int .i64, .slc, .int .i64] }
theorem ty71_ok : TI.ok Try.prog 71 ty71 := TI.mk_ok (by kernel_rfl) (by kernel_rfl) (by kernel_rfl) (by kernel_rfl) (by kernel_rfl) (by kernel_rfl)
/-- func(func(txn.Ask) bool) -/
def ty72 : TI := { k := .func, size := 1, zero := [.one .nilf], bytes := 8, ck := [] }
theorem ty72_ok : TI.ok Try.prog 72 ty72 := TI.mk_ok (by kernel_rfl) (by kernel_rfl) (by kernel_rfl) (by kernel_rfl) (by kernel_rfl) (by kernel_rfl)
/-- iter.Seq[almoner/txn.Ask] -/
def ty73 : TI := { k := .func, size := 1, zero := [.one .nilf], bytes := 8, ck := [] }
theorem ty73_ok : TI.ok Try.prog 73 ty73 := TI.mk_ok (by kernel_rfl) (by kernel_rfl) (by kernel_rfl) (by kernel_rfl) (by kernel_rfl) (by kernel_rfl)
/-- func(chart.Moving) iter.Seq[almoner/txn.Ask] -/
def ty74 : TI := { k := .func, size := 1, zero := [.one .nilf], bytes := 8, ck := [] }
theorem ty74_ok : TI.ok Try.prog 74 ty74 := TI.mk_ok (by kernel_rfl) (by kernel_rfl) (by kernel_rfl) (by kernel_rfl) (by kernel_rfl) (by kernel_rfl)
/-- func(almonerref14.Moving) -/
def ty75 : TI := { k := .func, size := 1, zero := [.one .nilf], bytes := 8, ck := [] }
theorem ty75_ok : TI.ok Try.prog 75 ty75 := TI.mk_ok (by kernel_rfl) (by kernel_rfl) (by kernel_rfl) (by kernel_rfl) (by kernel_rfl) (by kernel_rfl)
/-- func(almonerref13.Cmd, almonerref13.Cmd) bool -/
def ty76 : TI := { k := .func, size := 1, zero := [.one .nilf], bytes := 8, ck := [] }
theorem ty76_ok : TI.ok Try.prog 76 ty76 := TI.mk_ok (by kernel_rfl) (by kernel_rfl) (by kernel_rfl) (by kernel_rfl) (by kernel_rfl) (by kernel_rfl)
/-- func(chart.Moving) -/
def ty77 : TI := { k := .func, size := 1, zero := [.one .nilf], bytes := 8, ck := [] }
theorem ty77_ok : TI.ok Try.prog 77 ty77 := TI.mk_ok (by kernel_rfl) (by kernel_rfl) (by kernel_rfl) (by kernel_rfl) (by kernel_rfl) (by kernel_rfl)
/-- func(chart.Moving, shard.Cmd, shard.Result) bool -/
def ty78 : TI := { k := .func, size := 1, zero := [.one .nilf], bytes := 8, ck := [] }
theorem ty78_ok : TI.ok Try.prog 78 ty78 := TI.mk_ok (by kernel_rfl) (by kernel_rfl) (by kernel_rfl) (by kernel_rfl) (by kernel_rfl) (by kernel_rfl)
/-- func(almonerref14.Moving) (almonerref14.Cmd, bool) -/
def ty79 : TI := { k := .func, size := 1, zero := [.one .nilf], bytes := 8, ck := [] }
theorem ty79_ok : TI.ok Try.prog 79 ty79 := TI.mk_ok (by kernel_rfl) (by kernel_rfl) (by kernel_rfl) (by kernel_rfl) (by kernel_rfl) (by kernel_rfl)
/-- func(txn.Ask) bool -/
def ty80 : TI := { k := .func, size := 1, zero := [.one .nilf], bytes := 8, ck := [] }
theorem ty80_ok : TI.ok Try.prog 80 ty80 := TI.mk_ok (by kernel_rfl) (by kernel_rfl) (by kernel_rfl) (by kernel_rfl) (by kernel_rfl) (by kernel_rfl)
/-- func(chart.Moving) (txn.Ask, bool) -/
def ty82 : TI := { k := .func, size := 1, zero := [.one .nilf], bytes := 8, ck := [] }
theorem ty82_ok : TI.ok Try.prog 82 ty82 := TI.mk_ok (by kernel_rfl) (by kernel_rfl) (by kernel_rfl) (by kernel_rfl) (by kernel_rfl) (by kernel_rfl)
/-- func([]uint8) []uint8 -/
def ty83 : TI := { k := .func, size := 1, zero := [.one .nilf], bytes := 8, ck := [] }
theorem ty83_ok : TI.ok Try.prog 83 ty83 := TI.mk_ok (by kernel_rfl) (by kernel_rfl) (by kernel_rfl) (by kernel_rfl) (by kernel_rfl) (by kernel_rfl)
/-- func() string -/
def ty84 : TI := { k := .func, size := 1, zero := [.one .nilf], bytes := 8, ck := [] }
theorem ty84_ok : TI.ok Try.prog 84 ty84 := TI.mk_ok (by kernel_rfl) (by kernel_rfl) (by kernel_rfl) (by kernel_rfl) (by kernel_rfl) (by kernel_rfl)
/-- uint32 -/
def ty90 : TI := { k := .int .u32, size := 1, zero := [.one (.v (.int .u32 0))], bytes := 4, ck := [.int .u32] }
theorem ty90_ok : TI.ok Try.prog 90 ty90 := TI.mk_ok (by kernel_rfl) (by kernel_rfl) (by kernel_rfl) (by kernel_rfl) (by kernel_rfl) (by kernel_rfl)
/-- func(unsafe.Pointer, unsafe.Pointer) bool -/
def ty93 : TI := { k := .func, size := 1, zero := [.one .nilf], bytes := 8, ck := [] }
theorem ty93_ok : TI.ok Try.prog 93 ty93 := TI.mk_ok (by kernel_rfl) (by kernel_rfl) (by kernel_rfl) (by kernel_rfl) (by kernel_rfl) (by kernel_rfl)
/-- *uint8 -/
def ty94 : TI := { k := .ptr, size := 1, zero := [.one .nilp], bytes := 8, ck := [.ptr] }
theorem ty94_ok : TI.ok Try.prog 94 ty94 := TI.mk_ok (by kernel_rfl) (by kernel_rfl) (by kernel_rfl) (by kernel_rfl) (by kernel_rfl) (by kernel_rfl)
/-- struct { Name string; Amount int64 } -/
def ty99 : TI := { k := .struct [(0, 9), (1, 2)], size := 2, zero := [.one (.v (.string ByteArray.empty)), .one (.v (.int .i64 0))], bytes := 24, ck := [.str, .int .i64] }
theorem ty99_ok : TI.ok Try.prog 99 ty99 := TI.mk_ok (by kernel_rfl) (by kernel_rfl) (by kernel_rfl) (by kernel_rfl) (by kernel_rfl) (by kernel_rfl)
/-- api.Row -/
def ty100 : TI := { k := .struct [(0, 9), (1, 2)], size := 2, zero := [.one (.v (.string ByteArray.empty)), .one (.v (.int .i64 0))], bytes := 24, ck := [.str, .int .i64] }
theorem ty100_ok : TI.ok Try.prog 100 ty100 := TI.mk_ok (by kernel_rfl) (by kernel_rfl) (by kernel_rfl) (by kernel_rfl) (by kernel_rfl) (by kernel_rfl)
def tyL : List (Nat × TI) := [(1, ty1), (2, ty2), (3, ty3), (4, ty4), (5, ty5), (9, ty9), (12, ty12), (13, ty13), (21, ty21), (22, ty22), (23, ty23), (24, ty24), (25, ty25), (26, ty26), (27, ty27), (28, ty28), (29, ty29), (30, ty30), (31, ty31), (32, ty32), (33, ty33), (34, ty34), (35, ty35), (36, ty36), (37, ty37), (38, ty38), (39, ty39), (40, ty40), (41, ty41), (42, ty42), (43, ty43), (44, ty44), (45, ty45), (46, ty46), (47, ty47), (48, ty48), (49, ty49), (50, ty50), (51, ty51), (52, ty52), (53, ty53), (54, ty54), (55, ty55), (56, ty56), (57, ty57), (58, ty58), (59, ty59), (60, ty60), (62, ty62), (63, ty63), (64, ty64), (66, ty66), (67, ty67), (68, ty68), (69, ty69), (70, ty70), (71, ty71), (72, ty72), (73, ty73), (74, ty74), (75, ty75), (76, ty76), (77, ty77), (78, ty78), (79, ty79), (80, ty80), (82, ty82), (83, ty83), (84, ty84), (90, ty90), (93, ty93), (94, ty94), (99, ty99), (100, ty100)]
theorem tyL_ok : ∀ t ti, lk tyL t = some ti → TI.ok Try.prog t ti := allOk_get (l := tyL) ⟨ty1_ok, ty2_ok, ty3_ok, ty4_ok, ty5_ok, ty9_ok, ty12_ok, ty13_ok, ty21_ok, ty22_ok, ty23_ok, ty24_ok, ty25_ok, ty26_ok, ty27_ok, ty28_ok, ty29_ok, ty30_ok, ty31_ok, ty32_ok, ty33_ok, ty34_ok, ty35_ok, ty36_ok, ty37_ok, ty38_ok, ty39_ok, ty40_ok, ty41_ok, ty42_ok, ty43_ok, ty44_ok, ty45_ok, ty46_ok, ty47_ok, ty48_ok, ty49_ok, ty50_ok, ty51_ok, ty52_ok, ty53_ok, ty54_ok, ty55_ok, ty56_ok, ty57_ok, ty58_ok, ty59_ok, ty60_ok, ty62_ok, ty63_ok, ty64_ok, ty66_ok, ty67_ok, ty68_ok, ty69_ok, ty70_ok, ty71_ok, ty72_ok, ty73_ok, ty74_ok, ty75_ok, ty76_ok, ty77_ok, ty78_ok, ty79_ok, ty80_ok, ty82_ok, ty83_ok, ty84_ok, ty90_ok, ty93_ok, ty94_ok, ty99_ok, ty100_ok, trivial⟩
def eqL : List (Nat × List CK) := [(30, [.int .i64, .str, .str, .int .i64, .str, .int .i64, .int .i64]), (37, [.int .i64, .int .i64, .int .i64, .int .i64, .int .i64, .int .i64]), (47, [.int .i64, .int .i64, .int .i64, .int .i64, .int .i64, .int .i64]), (60, [.int .i64, .int .i64, .int .i64, .int .i64, .int .i64]), (64, [.int .i64, .int .i64, .int .i64, .int .i64, .int .i64]), (100, [.str, .int .i64])]
theorem eqL_ok : ∀ t ks, lk eqL t = some ks → EqOk Try.prog t ks := allEq_get (l := eqL) ⟨EqOk.mk_ok (by kernel_rfl), EqOk.mk_ok (by kernel_rfl), EqOk.mk_ok (by kernel_rfl), EqOk.mk_ok (by kernel_rfl), EqOk.mk_ok (by kernel_rfl), EqOk.mk_ok (by kernel_rfl), trivial⟩
end Go.Proofs.Ytgjoileoekbkoaa
