/- The small living call of layer 5. -/
import Derived.Test.YtonhhbebpcaaeaaWalL
import Derived.Lib.SlBytesConst
namespace Go.Proofs.Ytonhhbebpcaaeaa
open Go.RowKit

def abcLog : List UInt8 := fragBytes 1 [97, 98, 99]
theorem abc_read : readTop abcLog 7 = ([[97, 98, 99]], 0, 10) := by decide +kernel
theorem abc_len : abcLog.length = 10 := by decide +kernel

/-- The bytes of a constant. -/
theorem const_bsl (w : World) (xs : List UInt8) (h : xs.length ≤ 1000) : Bsl (w.alloc (.cells (xs.map eB).toArray 5 ((xs.map eB).toArray.size, (xs.map eB).toArray.size + 1))) (w.alloc (.cells (xs.map eB).toArray 5 ((xs.map eB).toArray.size, (xs.map eB).toArray.size + 1))).heap.size (some ⟨w.heap.size, 0, none⟩) xs.length xs.length xs := by
  refine ⟨rfl, Nat.le_refl _, by unfold maxLen; omega, by unfold maxB; omega, .inr ⟨w.heap.size, 0, rfl, by simp, fun j u hu => ?_⟩⟩
  have h1 := World.cell?_alloc_mark w (xs.map eB).toArray 5 ((xs.map eB).toArray.size, (xs.map eB).toArray.size + 1) (0 + j)
  rw [h1]
  simpa using hu

set_option maxRecDepth 100000 in
set_option maxHeartbeats 1000000 in
theorem lives_w (w : World) : Calls Try.prog 15 #[] w fun e w' => e = .returned (.bool true) ∧ Below w.heap.size w w' := by
  have kc := fun (w : World) (C : Array Value) (n c : Nat) => Lib.run_convert_bytes_const (P := Try.prog) w 22 5 C n c Try.underlying22 Try.underlying5
  go_enter Try.func15, Try.ntmps15
  go_wp2_with fail
  go_at_call 44
  refine (new_w 7 false _).mono ?_
  rintro e w1 ⟨rfl, hr, hb1⟩
  have hs1 := hr.lt
  have hr1 : WrIs (w1.alloc (Obj.cells #[Value.int .u8 97, Value.int .u8 98, Value.int .u8 99] 5 (3, 4))) w.heap.size 7 false 0 := Blk.alloc hr _
  have hbs : Bsl (w1.alloc (Obj.cells #[Value.int .u8 97, Value.int .u8 98, Value.int .u8 99] 5 (3, 4))) (w1.alloc (Obj.cells #[Value.int .u8 97, Value.int .u8 98, Value.int .u8 99] 5 (3, 4))).heap.size (some ⟨w1.heap.size, 0, none⟩) 3 3 [97, 98, 99] := by
    simpa [eB] using const_bsl w1 [97, 98, 99] (by simp)
  have hb2 : Below w.heap.size w (w1.alloc (Obj.cells #[Value.int .u8 97, Value.int .u8 98, Value.int .u8 99] 5 (3, 4))) := hb1.alloc hb1.size _
  go_wp2_with fail
  generalize w1.alloc (Obj.cells #[Value.int .u8 97, Value.int .u8 98, Value.int .u8 99] 5 (3, 4)) = w2 at *
  go_at_call 45
  refine (add_w w.heap.size 7 0 3 3 _ [97, 98, 99] w2 hr1 hbs (by omega) (by omega)).mono ?_
  rintro e w3 ⟨v, rfl, hown, hg, hr3⟩
  obtain ⟨A3, c3, rfl, -⟩ := own_form hown
  have hb3 := Bsl.of_own hown (by unfold maxB; omega)
  have hbw3 : Below w.heap.size w w3 := hb2.trans (below_of_grown hg (Nat.le_refl _) hb2.size)
  have hs3 := hbw3.size
  have hrd := walRead_w 7 10 c3 A3 abcLog w3 hb3
  rw [abc_read] at hrd
  go_wp2_with fail
  go_at_call 9
  refine hrd.mono ?_
  rintro e w4 ⟨v4, rfl, ⟨A4, c4, vals, rfl, hc4, hm4, hv4, hr4, hl4⟩, hb4⟩
  have hr5 : WrIs w4 w.heap.size 7 false 10 := Blk.ext hr3 hb4
  have hat := at_w w.heap.size 7 10 false w4 hr5
  obtain ⟨B0, n0, d0, e0, s0, -⟩ := hl4.2 0 [97, 98, 99] rfl
  obtain ⟨g0, o0, rfl, hg0, hc0⟩ := hr4.get e0
  rw [Nat.add_zero] at hc0
  have u1 : (convert 22 9 (.slice B0 n0 d0)).run Try.prog w4 = .ok (.string ⟨#[97, 98, 99]⟩) w4 := run_conv_str Try.underlying22 Try.underlying5 Try.underlying9 s0
  have hbw4 : Below w.heap.size w w4 := hbw3.trans (hb4.mono hs3)
  clear hrd
  go_wp2_with (go_at_call 14; refine hat.mono ?_; rintro e w5 ⟨rfl, rfl⟩)
  go_ret
  exact ⟨rfl, hbw4⟩
end Go.Proofs.Ytonhhbebpcaaeaa
