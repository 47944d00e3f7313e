/- batch.Decode, whatever the bytes. -/
import Derived.Test.YtonhhbebpcaaeaaDecJ
import Derived.Test.YtonhhbebpcaaeaaDecI
namespace Go.Proofs.Ytonhhbebpcaaeaa
open Go.RowKit
theorem decode_w (A : Option Addr) (n c : Nat) (xs : List UInt8) (w : World) (h : Bsl w w.heap.size A n c xs) :
    Calls Try.prog 21 #[.slice A n c] w (DecPost w xs) := by
  by_cases h1 : 4194304 < n
  · exact decode_long A n c xs w h h1
  by_cases h2 : n < 8
  · exact decode_short A n c xs w h h2
  by_cases h3 : 72057594037927935 < leNat (xs.take 8)
  · exact decode_seq A n c xs w h (by omega) (by omega) h3
  by_cases h4 : n < 12
  · exact decode_twelve A n c xs w h (by omega) h4 (by omega)
  by_cases h5 : 4096 < leNat ((xs.drop 8).take 4) ∨ fitsOf (leNat (xs.take 8)) (leNat ((xs.drop 8).take 4)) = false
  · exact decode_count A n c xs w h (by omega) (by omega) (by omega) h5
  · have h6 := not_or.1 h5
    exact decode_main A n c xs w h (by omega) (by omega) (by omega) (by omega) (by simpa using h6.2)
end Go.Proofs.Ytonhhbebpcaaeaa
