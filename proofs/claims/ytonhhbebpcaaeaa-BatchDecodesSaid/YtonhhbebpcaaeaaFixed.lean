/- The walks of fixed numbers: codec.fixed, Fixed32, Fixed64, sedimentref01.Fixed. -/
import Derived.Test.YtonhhbebpcaaeaaProg
import Derived.Test.YtonhhbebpcaaeaaMem
import Derived.WalkSpells
import Derived.WalkLawsBesides
import Derived.KernelRfl
namespace Go.Proofs.Ytonhhbebpcaaeaa
open Go.RowKit

/-- The lowest byte first. -/
def leBytes (n : Nat) : Nat → List UInt8
  | 0 => []
  | k + 1 => leBytes n k ++ [UInt8.ofNat (n / 2 ^ (8 * k))]
theorem leBytes_len (n k : Nat) : (leBytes n k).length = k := by induction k with
  | zero => rfl
  | succ k ih => simp [leBytes, ih]
theorem eB_ofNat (m : Nat) : eB (UInt8.ofNat m) = .int .u8 ((m : Int) % 256) := by
  unfold eB
  simp

theorem info_byte : (Try.prog.info? 5).map (fun i => (i.zero, i.size, i.bytes)) = some (some (.int .u8 0), 1, 1) := by kernel_rfl

/-- What the loop has written when k rounds are over. -/
def leRow (n size k : Nat) : List Value := (leBytes n k).map eB ++ List.replicate (size - k) (.int .u8 0)
theorem leRow_set (n size k : Nat) (h : k < size) : (leRow n size k).set k (.int .u8 ((n : Int) / 2 ^ (8 * k) % 256)) = leRow n size (k + 1) := by
  unfold leRow
  rw [List.set_append_right _ _ (by simp [leBytes_len]), show size - k = (size - (k + 1)) + 1 by omega, List.replicate_succ]
  simp [leBytes, leBytes_len, eB_ofNat]
theorem leRow_len (n size k : Nat) (h : k ≤ size) : (leRow n size k).length = size := by
  simp [leRow, leBytes_len]; omega
theorem leRow_full (n size : Nat) : leRow n size size = (leBytes n size).map eB := by simp [leRow]

set_option maxHeartbeats 1000000 in
theorem fixed_w (n size : Nat) (hs : size ≤ 8) (w : World) :
    Calls Try.prog 95 #[.int .u64 n, .int .i64 size] w fun e w' =>
      ∃ v, e = .returned v ∧ w'.ownsRow w.heap.size 5 1 v size ((leBytes n size).map eB) ∧ Below w.heap.size w w' := by
  obtain ⟨i0, hi0, hz0, hz1, hz2⟩ := info_parts info_byte
  go_enter Try.func95, Try.ntmps95
  go_wp2_with (at_make; go_loud (refine wpList_make_full _ rfl _ _ _ rfl w.heap.size 5 i0 _ 1 Try.underlying22 hi0 hz0 hz1 _ _ _ _ size rfl rfl rfl rfl (by rw [hz2]; omega) (by unfold maxLen; omega) (Nat.le_refl _) ?_; intro w1 hown1 hg1))
  have hb1 : Below w.heap.size w w1 := (Below.refl _ _).grown hg1 (Nat.le_refl _) (by simp)
  have hrow : Hid ((madeCells (Value.int IntKind.u8 0).cells (size * 1)).toList = leRow n size 0) := by
    unfold Hid
    simp [toList_madeCells_one, Value.cells, leRow, leBytes]
  rw [hrow.out] at hown1
  clear hrow
  have hlt := hown1.lt w.heap.size rfl
  generalize hG : w.heap.size = G at *
  have hG2 := hide hG
  clear hG
  go_loopw [6, 11] (fun _ i wr => ∃ (k : Nat), k ≤ size ∧ i = .int .i64 k ∧ Below G w wr ∧ wr.ownsRow G 5 1 (.slice (some ⟨G, 0, none⟩) size size) size (leRow n size k)) (fun _ i _ => size - (intOf i).toNat)
  case atStart => exact ⟨0, by omega, rfl, hb1, hown1⟩
  case round =>
    obtain ⟨k, hk, rfl, hbw, how⟩ := hrel
    by_cases hlt : k < size
    · have hc := how.cellAt k (by omega)
      rw [List.getElem?_eq_getElem (by rw [leRow_len n size k hk]; exact hlt)] at hc
      have hf := how.frozenAt k
      have hst := hide (how.stored k (.int .u8 ((n : Int) / 2 ^ (8 * k) % 256)))
      rw [leRow_set n size k hlt] at hst
      go_wp2
      go_roundw
      case rel => exact ⟨k + 1, by omega, by go_num, hbw.setCell (p := ⟨G, k, none⟩) (Nat.le_refl _) _, hst.out.1⟩
      case measure => simp [intOf]; omega
    · obtain rfl : k = size := by omega
      rw [leRow_full] at how
      go_wp2
      go_ret
      exact ⟨_, rfl, by rw [hG2.out]; exact how, by rw [hG2.out]; exact hbw⟩

theorem fixed32_w (n : Nat) (hn : n < 4294967296) (w : World) :
    Calls Try.prog 48 #[.int .u32 n] w fun e w' =>
      ∃ v, e = .returned v ∧ w'.ownsRow w.heap.size 5 1 v 4 ((leBytes n 4).map eB) ∧ Below w.heap.size w w' := by
  have hc : (n : Int) % 18446744073709551616 = n := by omega
  have hn2 : (n : Int) < 4294967296 := by omega
  go_enter Try.func48, Try.ntmps48
  go_wp2_with (go_at_call 95; refine (fixed_w n 4 (by omega) _).mono ?_; rintro e w1 ⟨v, rfl, hv, hb⟩)
  go_ret
  exact ⟨v, rfl, hv, hb⟩

theorem fixed64_w (n : Nat) (w : World) :
    Calls Try.prog 47 #[.int .u64 n] w fun e w' =>
      ∃ v, e = .returned v ∧ w'.ownsRow w.heap.size 5 1 v 8 ((leBytes n 8).map eB) ∧ Below w.heap.size w w' := by
  go_enter Try.func47, Try.ntmps47
  go_wp2_with (go_at_call 95; refine (fixed_w n 8 (by omega) _).mono ?_; rintro e w1 ⟨v, rfl, hv, hb⟩)
  go_ret
  exact ⟨v, rfl, hv, hb⟩

set_option maxHeartbeats 1000000 in
theorem refFixed_w (n size : Nat) (hs : size ≤ 8) (w : World) :
    Calls Try.prog 52 #[.int .u64 n, .int .i64 size] w fun e w' =>
      ∃ v, e = .returned v ∧ w'.ownsRow w.heap.size 5 1 v size ((leBytes n size).map eB) ∧ Below w.heap.size w w' := by
  obtain ⟨i0, hi0, hz0, hz1, hz2⟩ := info_parts info_byte
  go_enter Try.func52, Try.ntmps52
  go_wp2
  have hb1 : Below w.heap.size w (w.alloc (Obj.cells #[] 5)) := (Below.refl _ _).alloc (Nat.le_refl _) _
  have ho1 : (w.alloc (Obj.cells #[] 5)).ownsRow w.heap.size 5 1 (.slice (some ⟨w.heap.size, 0, none⟩) 0 0) 0 ((leBytes n 0).map eB) := World.ownsRow_made w #[] 0 (Nat.le_refl _) (by unfold maxLen; omega) (by simp)
  generalize hG : w.heap.size = G at *
  have hG2 := hide hG
  clear hG
  go_loopw [5, 6] (fun v i wr => ∃ (k : Nat), k ≤ size ∧ i = .int .i64 k ∧ Below G w wr ∧ wr.ownsRow G 5 1 v k ((leBytes n k).map eB)) (fun _ i _ => size - (intOf i).toNat)
  case atStart => exact ⟨0, by omega, rfl, hb1, ho1⟩
  case round =>
    obtain ⟨k, hk, rfl, hbw, how⟩ := hrel
    by_cases hlt : k < size
    · have hsz : G ≤ wr.heap.size := by have h1 := hbw.size; have h2 := hG2.out; omega
      go_wp2_with (at_builtin; refine wpList_append_own _ rfl _ _ _ rfl G 5 i0 _ 1 1 Try.underlying22 hi0 hz0 hz1 hz2 rfl (by decide) _ _ _ rfl (how.alloc _) ⟨wr.heap.size, 0, none⟩ 1 1 [.int .u8 ((n : Int) / 2 ^ (8 * k) % 256)] rfl rfl (cell_one_new _ _ _) (by simp [Value.oneCell']) (by unfold maxLen; omega) (by omega) (by simp; omega) ?_; intro v' w1 hown' hgrow _)
      have hb2 := below_app hbw how hsz hgrow rfl
      have hle : Hid ((leBytes n k).map eB ++ [Value.int .u8 ((n : Int) / 2 ^ (8 * k) % 256)] = (leBytes n (k + 1)).map eB) := by
        unfold Hid
        simp [leBytes, eB_ofNat]
      rw [hle.out] at hown'
      go_roundw
      case rel => exact ⟨k + 1, by omega, by go_num, hb2, hown'⟩
      case measure => simp [intOf]; omega
    · obtain rfl : k = size := by omega
      go_wp2
      go_ret
      exact ⟨_, rfl, by rw [hG2.out]; exact how, by rw [hG2.out]; exact hbw⟩
end Go.Proofs.Ytonhhbebpcaaeaa
