/- Reading fixed numbers where the bytes are too few. -/
import Derived.Test.YtonhhbebpcaaeaaDecD
namespace Go.Proofs.Ytonhhbebpcaaeaa
open Go.RowKit

theorem read_short (A : Option Addr) (len cap size : Nat) (w : World) (hl : len < size) :
    Calls Try.prog 100 #[.slice A len cap, .int .i64 size] w fun e w' => e = .returned (.tuple #[.int .u64 0, .int .i64 4]) ∧ w' = w := by
  have hd : decide ((len : Int) < (size : Int)) = true := by simp; omega
  go_enter Try.func100, Try.ntmps100
  go_wp2
  go_ret2
  exact ⟨rfl, rfl⟩
theorem readFixed64_short (A : Option Addr) (len cap : Nat) (w : World) (hl : len < 8) :
    Calls Try.prog 59 #[.slice A len cap] w fun e w' => e = .returned (.tuple #[.int .u64 0, .int .i64 4]) ∧ w' = w := by
  have hc := read_short A len cap 8 w hl
  go_enter Try.func59, Try.ntmps59
  go_wp2_with (go_at_call 100; refine hc.mono ?_; rintro e w1 ⟨rfl, rfl⟩)
  go_ret2
  exact ⟨rfl, rfl⟩
theorem readFixed32_short (A : Option Addr) (len cap : Nat) (w : World) (hl : len < 4) :
    Calls Try.prog 60 #[.slice A len cap] w fun e w' => e = .returned (.tuple #[.int .u32 0, .int .i64 4]) ∧ w' = w := by
  have hc := read_short A len cap 4 w hl
  go_enter Try.func60, Try.ntmps60
  go_wp2_with (go_at_call 100; refine hc.mono ?_; rintro e w1 ⟨rfl, rfl⟩)
  go_ret2
  exact ⟨rfl, rfl⟩
theorem readFixed64_w (A : Option Addr) (len cap : Nat) (xs : List UInt8) (w : World) (h : Bsl w w.heap.size A len cap xs) (hl : 8 ≤ len) :
    Calls Try.prog 59 #[.slice A len cap] w fun e w' => e = .returned (.tuple #[.int .u64 (leNat (xs.take 8) : Nat), .int .i64 0]) ∧ Below w.heap.size w w' := by
  have hc := read_w A len cap 8 xs w h (by omega) hl
  generalize leNat (xs.take 8) = v at *
  go_enter Try.func59, Try.ntmps59
  go_wp2_with (go_at_call 100; refine hc.mono ?_; rintro e w1 ⟨rfl, hb1⟩)
  go_ret2
  exact ⟨rfl, hb1⟩
theorem refReadFixed_short (A : Option Addr) (n c size : Nat) (w : World) (hl : n < size) :
    Calls Try.prog 63 #[.slice A n c, .int .i64 size] w fun e w' => e = .returned (.tuple #[.int .u64 0, .int .i64 4]) ∧ w' = w := by
  have hd : decide ((n : Int) < (size : Int)) = true := by simp; omega
  go_enter Try.func63, Try.ntmps63
  go_wp2
  go_ret2
  exact ⟨rfl, rfl⟩
end Go.Proofs.Ytonhhbebpcaaeaa
