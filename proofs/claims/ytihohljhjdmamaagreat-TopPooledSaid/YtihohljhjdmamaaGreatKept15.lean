/- Numbers as bytes. -/
import Derived.Test.YtihohljhjdmamaaGreatKept4
import Derived.Handy
import Derived.Deep.Cut
namespace Go.Proofs.YtihohljhjdmamaaGreat
open Go.RowKit
set_option linter.unusedVariables false

/-- the five bytes of a number -/
def b5 (n : Nat) : List UInt8 := [UInt8.ofNat (n / 4294967296), UInt8.ofNat (n / 16777216), UInt8.ofNat (n / 65536), UInt8.ofNat (n / 256), UInt8.ofNat n]
theorem b5_cells (n : Nat) : bcells (b5 n) = [.int .u8 ((n : Int) / 4294967296 % 256), .int .u8 ((n : Int) / 16777216 % 256), .int .u8 ((n : Int) / 65536 % 256), .int .u8 ((n : Int) / 256 % 256), .int .u8 ((n : Int) % 256)] := by
  simp [bcells, b5]
theorem arr5_size : (Tryz.prog.info? 122).map (·.size) = some 5 := by kernel_rfl
set_option maxRecDepth 100000 in
set_option maxHeartbeats 1000000 in
theorem five_any (n : Nat) (hn : n < 18446744073709551616) (w : World) : Calls Tryz.prog 65 #[.int .u64 (n : Nat)] w fun e w' => e = .returned (.agg #[.int .u8 ((n : Int) / 4294967296 % 256), .int .u8 ((n : Int) / 16777216 % 256), .int .u8 ((n : Int) / 65536 % 256), .int .u8 ((n : Int) / 256 % 256), .int .u8 ((n : Int) % 256)]) ∧ Hid (w.grownBy w' none) := by
  have HS := Lib.hid arr5_size
  have q0 := heap_alloc_new w (.cells #[.int .u8 0, .int .u8 0, .int .u8 0, .int .u8 0, .int .u8 0] 122)
  have g0 := World.grownBy_alloc w (.cells #[.int .u8 0, .int .u8 0, .int .u8 0, .int .u8 0, .int .u8 0] 122) none
  go_enter Tryz.func65, Tryz.ntmps65
  go_upto_region 1 with (fail)
  generalize w.alloc (.cells #[.int .u8 0, .int .u8 0, .int .u8 0, .int .u8 0, .int .u8 0] 122) = W0 at *
  obtain ⟨⟨t0, t1, t2, t3, t4⟩, f0, f1, f2, f3, f4⟩ := row5 q0
  have fq := Lib.hid (row_put5 (.int .u8 ((n : Int) / 4294967296 % 256)) (.int .u8 ((n : Int) / 16777216 % 256)) (.int .u8 ((n : Int) / 65536 % 256)) (.int .u8 ((n : Int) / 256 % 256)) (.int .u8 ((n : Int) % 256)) q0)
  have HG := Lib.hid (grown_own g0 fq.out.2 (Nat.le_refl _))
  clear q0 g0
  go_wp2_with fail
  refine bodyPost_ret (results_cell_row (fn := Tryz.f65) (p := 2) (ty := 122) rfl _ _ w.heap.size 122 _ _ _ rfl fq.out.1 Tryz.underlying122 rfl HS.out) rfl ?_
  exact ⟨rfl, HG⟩
end Go.Proofs.YtihohljhjdmamaaGreat
