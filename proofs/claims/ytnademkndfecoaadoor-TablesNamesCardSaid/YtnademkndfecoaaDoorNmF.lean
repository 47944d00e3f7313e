/- strconv.FormatUint at base 10: the decimal digits of every uint64. -/
import Derived.Test.YtnademkndfecoaaDoorNmShelf
import Derived.Test.YtnademkndfecoaaDoorNmP
import Derived.Test.YtnademkndfecoaaDoorChecked
import Derived.Lib.AppendIntMem
import Derived.WalkSpells
import Derived.WalkLawsBesides
namespace Go.Proofs.YtnademkndfecoaaDoor
open Go.RowKit Go.Sort Go.Lib

set_option maxHeartbeats 3200000 in
set_option maxRecDepth 100000 in
theorem formatUI_w (u : Nat) (hu64 : u < 18446744073709551616) (w : World) (htab : Lib.TabIs Tryd.prog w "internal/strconv.uint64pow10" .u64 Lib.pow10Tab) :
    Calls Tryd.prog 25 #[.int .u64 u, .int .i64 10] w fun e w' => e = .returned (.string ⟨(Lib.decDigits u).toArray⟩) ∧ Below w.heap.size w w' := by
  by_cases hs : u < 100
  · have t1 : decide ((u : Int) < 100) = true := by simp; omega
    go_enter Tryd.func25, Tryd.ntmps25
    go_wp2_with (go_at_call 40; refine (Tryd.internal_strconv_small u hs _).mono ?_; rintro e w' ⟨rfl, rfl⟩)
    go_ret
    exact ⟨rfl, Below.refl _ _⟩
  · have t1 : decide ((u : Int) < 100) = false := by simp; omega
    have hu1 : 1 ≤ u := by omega
    have hnd20 : Lib.nDigits u ≤ 20 := nDigits_le hu64
    have hal : Tryd.prog.arrayLen 56 = 24 := by kernel_rfl
    have hsl : ∀ W, (Instr.sliceAt 56 (.pointer (some ⟨w.heap.size, 0, none⟩)) none (some (.int .i64 (Lib.nDigits u : Int))) none).run Tryd.prog W = .ok (.slice (some ⟨w.heap.size, 0, none⟩) (Lib.nDigits u) 24) W := fun W => by
      rw [run_sliceAt_array_h W 56 ⟨w.heap.size, 0, none⟩ (by kernel_rfl) .i64 (Lib.nDigits u : Int) (by omega) (by rw [hal]; omega)]
      go_simp
    have hH0 := Lib.holds_zero0 w 56 (Lib.nDigits u) (by omega)
    have hfmt := Tryd.internal_strconv_formatBase10 w.heap.size 0 24 u (Array.replicate (Lib.nDigits u) 0) (w.alloc (.cells Lib.zeros24 56)) hH0 (by rw [Array.size_replicate]; exact Lib.lt_pow_nDigits u) hu64 (by rw [Array.size_replicate]; omega)
    rw [Array.size_replicate] at hfmt
    have HH0 := Lib.hid hH0
    clear hH0 hal
    go_enter Tryd.func25, Tryd.ntmps25
    go_wp2_with (go_at_call 41; refine (Tryd.internal_strconv_numDigits u hu1 hu64 _ (Lib.tabIs_alloc htab _)).mono ?_; rintro e w' ⟨rfl, rfl⟩)
    refine hfmt.mono ?_
    rintro e w' ⟨rfl, k, v', dk, rfl, hF⟩
    have hcv : (convert 27 9 (.slice (some ⟨w.heap.size, 0, none⟩) (Lib.nDigits u) 24)).run Tryd.prog ((putRow (fun (b : UInt8) => Value.int .u8 (b.toNat : Int)) (w.alloc (.cells Lib.zeros24 56)) w.heap.size 0 dk).drewN k) = .ok (.string ⟨(Lib.decDigits u).toArray⟩) ((putRow (fun (b : UInt8) => Value.int .u8 (b.toNat : Int)) (w.alloc (.cells Lib.zeros24 56)) w.heap.size 0 dk).drewN k) := by
      have h := run_convert_bytes_back (P := Tryd.prog) ((putRow (fun (b : UInt8) => Value.int .u8 (b.toNat : Int)) (w.alloc (.cells Lib.zeros24 56)) w.heap.size 0 dk).drewN k) 27 9 5 ⟨w.heap.size, 0, none⟩ 24 (Lib.decDigits u) Tryd.underlying27 Tryd.underlying5 Tryd.underlying9 (fun j hj => by
        rw [Lib.row_is_numeral hF j hj, Lib.add_plain, World.cell?_drewN]
        exact cell?_putRow (fun (b : UInt8) => Value.int .u8 (b.toNat : Int)) _ w.heap.size 0 _ dk HH0.out (by rw [hF.size, Array.size_replicate]) j (by rw [hF.size]; rw [Lib.decDigits_length] at hj; exact hj))
      rw [Lib.decDigits_length] at h
      exact h
    obtain ⟨os, eo⟩ := Lib.fin_at w (.cells Lib.zeros24 56) dk k 0
    have hb : Below w.heap.size w ((putRow (fun (b : UInt8) => Value.int .u8 (b.toNat : Int)) (w.alloc (.cells Lib.zeros24 56)) w.heap.size 0 dk).drewN k) := by rw [eo]; exact Lib.below_grow w.heap.size w (Nat.le_refl _) k os
    clear eo HH0 hfmt
    generalize (putRow (fun (b : UInt8) => Value.int .u8 (b.toNat : Int)) (w.alloc (.cells Lib.zeros24 56)) w.heap.size 0 dk).drewN k = W2 at hcv hb ⊢
    go_wp2
    go_ret
    exact ⟨rfl, hb⟩

set_option maxRecDepth 100000 in
theorem formatU_w (u : Nat) (hu64 : u < 18446744073709551616) (w : World) (htab : Lib.TabIs Tryd.prog w "internal/strconv.uint64pow10" .u64 Lib.pow10Tab) :
    Calls Tryd.prog 19 #[.int .u64 u, .int .i64 10] w fun e w' => e = .returned (.string ⟨(Lib.decDigits u).toArray⟩) ∧ Below w.heap.size w w' := by
  go_enter Tryd.func19, Tryd.ntmps19
  go_wp2_with (go_at_call 25; refine (formatUI_w u hu64 _ htab).mono ?_; rintro e w' ⟨rfl, hb⟩)
  go_ret
  exact ⟨rfl, hb⟩

theorem ba_app (a b : List UInt8) : (⟨a.toArray⟩ : ByteArray) ++ ⟨b.toArray⟩ = ⟨(a ++ b).toArray⟩ := by
  apply ByteArray.ext
  rw [ByteArray.data_append]
  simp

/-- How many zeros go in front. -/
def padN (u : Nat) : Nat := 6 - Lib.nDigits u
theorem padN_int (u : Nat) : max ((6 : Int) - (Lib.nDigits u : Int)) 0 = (padN u : Int) := by unfold padN; omega

set_option maxHeartbeats 1000000 in
set_option maxRecDepth 100000 in
/-- manifest.named: the document's name. -/
theorem manNamed_w (u : Nat) (hu64 : u < 18446744073709551616) (w : World) (htab : Lib.TabIs Tryd.prog w "internal/strconv.uint64pow10" .u64 Lib.pow10Tab) :
    Calls Tryd.prog 14 #[.int .u64 u] w fun e w' => e = .returned (.string ⟨(nmL [77, 65, 78, 73, 70, 69, 83, 84, 45] [] u).toArray⟩) ∧ Below w.heap.size w w' := by
  have hnd := nDigits_le hu64
  have hnp := nDigits_pos u
  have hsz : (⟨(Lib.decDigits u).toArray⟩ : ByteArray).size = Lib.nDigits u := by
    rw [Lib.size_eq]; simp [Lib.decDigits_length]
  go_enter Tryd.func14, Tryd.ntmps14
  go_wp2_with (go_at_call 19; refine (formatU_w u hu64 _ htab).mono ?_; rintro e W1 ⟨rfl, hb1⟩)
  rw [padN_int]
  refine (Tryd.strings_Repeat ⟨#[48]⟩ (padN u) _ (by unfold padN; omega) (by show 1 * padN u ≤ _; unfold padN; omega)).mono ?_
  rintro e W2 ⟨rfl, hb2⟩
  have hrl : (repeatL [48] (padN u)).length = padN u := by rw [repeatL_length]; simp
  have n1 : ¬ 9223372036854775807 < 9 + padN u := by unfold padN; omega
  have n2 : ¬ 9223372036854775807 < 9 + padN u + nDigits u := by unfold padN; omega
  go_wp2
  go_ret
  refine ⟨congrArg (fun x => Ending.returned (Value.string x)) ?_, hb1.trans (hb2.mono hb1.size)⟩
  rw [show (⟨#[77, 65, 78, 73, 70, 69, 83, 84, 45]⟩ : ByteArray) = ⟨[77, 65, 78, 73, 70, 69, 83, 84, 45].toArray⟩ from rfl, ba_app, ba_app]
  unfold nmL padN
  rw [digs_pad u 6 (by omega), List.append_nil, List.append_assoc]

set_option maxHeartbeats 1000000 in
set_option maxRecDepth 100000 in
/-- tables.named: the document's name. -/
theorem tabNamed_w (u : Nat) (hu64 : u < 18446744073709551616) (w : World) (htab : Lib.TabIs Tryd.prog w "internal/strconv.uint64pow10" .u64 Lib.pow10Tab) :
    Calls Tryd.prog 16 #[.int .u64 u] w fun e w' => e = .returned (.string ⟨(nmL [] [46, 115, 115, 116] u).toArray⟩) ∧ Below w.heap.size w w' := by
  have hnd := nDigits_le hu64
  have hnp := nDigits_pos u
  have hsz : (⟨(Lib.decDigits u).toArray⟩ : ByteArray).size = Lib.nDigits u := by
    rw [Lib.size_eq]; simp [Lib.decDigits_length]
  go_enter Tryd.func16, Tryd.ntmps16
  go_wp2_with (go_at_call 19; refine (formatU_w u hu64 _ htab).mono ?_; rintro e W1 ⟨rfl, hb1⟩)
  rw [padN_int]
  refine (Tryd.strings_Repeat ⟨#[48]⟩ (padN u) _ (by unfold padN; omega) (by show 1 * padN u ≤ _; unfold padN; omega)).mono ?_
  rintro e W2 ⟨rfl, hb2⟩
  have hrl : (repeatL [48] (padN u)).length = padN u := by rw [repeatL_length]; simp
  have n1 : ¬ 9223372036854775807 < padN u + nDigits u := by unfold padN; omega
  have n2 : ¬ 9223372036854775807 < padN u + nDigits u + 4 := by unfold padN; omega
  go_wp2
  go_ret
  refine ⟨congrArg (fun x => Ending.returned (Value.string x)) ?_, hb1.trans (hb2.mono hb1.size)⟩
  rw [show (⟨#[46, 115, 115, 116]⟩ : ByteArray) = ⟨[46, 115, 115, 116].toArray⟩ from rfl, ba_app, ba_app]
  unfold nmL padN
  rw [digs_pad u 6 (by omega), List.nil_append]
end Go.Proofs.YtnademkndfecoaaDoor
