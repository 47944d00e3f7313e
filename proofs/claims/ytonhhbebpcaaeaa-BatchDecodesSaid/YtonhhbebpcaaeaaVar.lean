/- Numbers in groups of seven bits: what they are, and the walks of codec.Varint, sedimentref01.Varint. -/
import Derived.Test.YtonhhbebpcaaeaaFixed
import Derived.Test.YtonhhbebpcaaeaaApp
import Derived.Laws.BitsAllLaws
namespace Go.Proofs.Ytonhhbebpcaaeaa
open Go.RowKit

/-- The lowest seven bits first. -/
def varB (n : Nat) : List UInt8 := if n < 128 then [UInt8.ofNat n] else UInt8.ofNat (n % 128 + 128) :: varB (n / 128)
termination_by n
decreasing_by omega
theorem varB_lo {n : Nat} (h : n < 128) : varB n = [UInt8.ofNat n] := by rw [varB, if_pos h]
theorem varB_hi {n : Nat} (h : 128 ≤ n) : varB n = UInt8.ofNat (n % 128 + 128) :: varB (n / 128) := by rw [varB, if_neg (by omega)]
theorem varB_le (k : Nat) : ∀ n, n < 128 ^ (k + 1) → (varB n).length ≤ k + 1 := by
  induction k with
  | zero => intro n h; rw [varB_lo (by simpa using h)]; simp
  | succ k ih =>
    intro n h
    by_cases h1 : n < 128
    · rw [varB_lo h1]; simp
    · rw [varB_hi (by omega), List.length_cons]
      have := ih (n / 128) (by rw [Nat.pow_succ] at h; omega)
      omega
theorem varB_le10 {n : Nat} (h : n < 18446744073709551616) : (varB n).length ≤ 10 := varB_le 9 n (by omega)
theorem varB_pos (n : Nat) : 1 ≤ (varB n).length := by
  by_cases h1 : n < 128
  · rw [varB_lo h1]; simp
  · rw [varB_hi (by omega)]; simp

/- the model's spelling -/
theorem or128_nat : ∀ x < 256, x ||| 128 = x % 128 + 128 := by decide +kernel
theorem and127_nat (x : Nat) : x &&& 127 = x % 128 := by
  have := Nat.and_two_pow_sub_one_eq_mod x 7
  simpa using this
theorem var_byte (m : Nat) : bits .or .u8 ((m : Int) % 256) 128 = (((UInt8.ofNat (m % 128 + 128)).toNat : Nat) : Int) := by
  have e : (m : Int) % 256 = ((m % 256 : Nat) : Int) := by omega
  have h := u8_or_nat (m % 256) 128 (by omega) (by omega)
  rw [e, show (128 : Int) = ((128 : Nat) : Int) from rfl, h, or128_nat _ (by omega), UInt8.toNat_ofNat']
  omega
theorem var_byte' (m : Nat) (hm : m < 18446744073709551616) : bits .or .u8 (bits .and .u64 (m : Int) 127 % 256) 128 = (((UInt8.ofNat (m % 128 + 128)).toNat : Nat) : Int) := by
  have h := u64_and_nat m 127 hm (by omega)
  rw [show (127 : Int) = ((127 : Nat) : Int) from rfl, h, and127_nat]
  have := var_byte (m % 128)
  rw [this]
  congr 4
  omega
theorem var_last (m : Nat) (hm : m < 128) : (m : Int) = (((UInt8.ofNat m).toNat : Nat) : Int) := by
  rw [UInt8.toNat_ofNat', Nat.mod_eq_of_lt (by omega)]

set_option maxRecDepth 100000 in
set_option maxHeartbeats 1000000 in
theorem varint_w (n : Nat) (hn : n < 18446744073709551616) (w : World) :
    Calls Try.prog 96 #[.int .u64 n] w fun e w' => ∃ v, e = .returned v ∧ w'.ownsRow w.heap.size 5 1 v (varB n).length ((varB n).map eB) ∧ Below w.heap.size w w' := by
  obtain ⟨i0, hi0, hz0, hz1, hz2⟩ := info_parts info_byte
  go_enter Try.func96, Try.ntmps96
  go_wp2
  have hb1 : Below w.heap.size w w := Below.refl _ _
  generalize hG : w.heap.size = G at *
  have hG2 := hide hG
  clear hG
  go_loopw [3, 0] (fun v i wr => ∃ (m : Nat) (acc : List UInt8), i = .int .u64 m ∧ m < 18446744073709551616 ∧ acc ++ varB m = varB n ∧ Below G w wr ∧ wr.ownsRow G 5 1 v acc.length (acc.map eB)) (fun _ i _ => (intOf i).toNat)
  case atStart => exact ⟨n, [], rfl, hn, rfl, hb1, World.ownsRow_nil _ _ _ _⟩
  case round =>
    obtain ⟨m, acc, rfl, hm, heq, hbw, how⟩ := hrel
    have hle := varB_le10 hn
    have hpos := varB_pos m
    have hll : acc.length + (varB m).length = (varB n).length := by rw [← heq, List.length_append]
    have hsz : G ≤ wr.heap.size := by have h1 := hbw.size; have h2 := hG2.out; omega
    by_cases hlt : 128 ≤ m
    · have ht : decide ((m : Int) ≥ 128) = true := by simp; omega
      go_wp2_with (at_builtin; refine wpList_append_own _ rfl _ _ _ rfl G 5 i0 _ 1 1 Try.underlying22 hi0 hz0 hz1 hz2 rfl (by decide) _ _ _ rfl (how.alloc _) ⟨wr.heap.size, 0, none⟩ 1 1 [.int .u8 (bits .or .u8 ((m : Int) % 256) 128)] rfl rfl (cell_one_new _ _ _) (by simp [Value.oneCell']) (by unfold maxLen; omega) (by omega) (by simp; omega) ?_; intro v' w1 hown' hgrow _)
      have hb2 := below_app hbw how hsz hgrow rfl
      rw [var_byte m] at hown'
      go_roundw
      case rel => exact ⟨m / 128, acc ++ [UInt8.ofNat (m % 128 + 128)], by go_num, by omega, by rw [← heq, varB_hi hlt]; simp, hb2, by simpa [eB] using hown'⟩
      case measure => simp [intOf]; omega
    · have ht : decide ((m : Int) ≥ 128) = false := by simp; omega
      go_wp2_with (at_builtin; refine wpList_append_own _ rfl _ _ _ rfl G 5 i0 _ 1 1 Try.underlying22 hi0 hz0 hz1 hz2 rfl (by decide) _ _ _ rfl (how.alloc _) ⟨wr.heap.size, 0, none⟩ 1 1 [.int .u8 (m : Int)] rfl rfl (cell_one_new _ _ _) (by simp [Value.oneCell']) (by unfold maxLen; omega) (by omega) (by simp; omega) ?_; intro v' w1 hown' hgrow _)
      have hb2 := below_app hbw how hsz hgrow rfl
      rw [var_last m (by omega)] at hown'
      rw [varB_lo (by omega)] at heq
      go_ret
      refine ⟨_, rfl, ?_, by rw [hG2.out]; exact hb2⟩
      rw [hG2.out, ← heq]
      simpa [eB] using hown'

set_option maxRecDepth 100000 in
set_option maxHeartbeats 1000000 in
theorem refVarint_w (n : Nat) (hn : n < 18446744073709551616) (w : World) :
    Calls Try.prog 53 #[.int .u64 n] w fun e w' => ∃ v, e = .returned v ∧ w'.ownsRow w.heap.size 5 1 v (varB n).length ((varB n).map eB) ∧ Below w.heap.size w w' := by
  obtain ⟨i0, hi0, hz0, hz1, hz2⟩ := info_parts info_byte
  go_enter Try.func53, Try.ntmps53
  go_wp2
  have hb1 : Below w.heap.size w (w.alloc (Obj.cells #[] 5)) := (Below.refl _ _).alloc (Nat.le_refl _) _
  have ho1 : (w.alloc (Obj.cells #[] 5)).ownsRow w.heap.size 5 1 (.slice (some ⟨w.heap.size, 0, none⟩) 0 0) 0 [] := World.ownsRow_made w #[] 0 (Nat.le_refl _) (by unfold maxLen; omega) (by simp)
  generalize hG : w.heap.size = G at *
  have hG2 := hide hG
  clear hG
  go_loopw [3, 0] (fun v i wr => ∃ (m : Nat) (acc : List UInt8), i = .int .u64 m ∧ m < 18446744073709551616 ∧ acc ++ varB m = varB n ∧ Below G w wr ∧ wr.ownsRow G 5 1 v acc.length (acc.map eB)) (fun _ i _ => (intOf i).toNat)
  case atStart => exact ⟨n, [], rfl, hn, rfl, hb1, ho1⟩
  case round =>
    obtain ⟨m, acc, rfl, hm, heq, hbw, how⟩ := hrel
    have hle := varB_le10 hn
    have hpos := varB_pos m
    have hll : acc.length + (varB m).length = (varB n).length := by rw [← heq, List.length_append]
    have hsz : G ≤ wr.heap.size := by have h1 := hbw.size; have h2 := hG2.out; omega
    by_cases hlt : 128 ≤ m
    · have ht : decide ((m : Int) ≥ 128) = true := by simp; omega
      go_wp2_with (at_builtin; refine wpList_append_own _ rfl _ _ _ rfl G 5 i0 _ 1 1 Try.underlying22 hi0 hz0 hz1 hz2 rfl (by decide) _ _ _ rfl (how.alloc _) ⟨wr.heap.size, 0, none⟩ 1 1 [.int .u8 (bits .or .u8 (bits .and .u64 (m : Int) 127 % 256) 128)] rfl rfl (cell_one_new _ _ _) (by simp [Value.oneCell']) (by unfold maxLen; omega) (by omega) (by simp; omega) ?_; intro v' w1 hown' hgrow _)
      have hb2 := below_app hbw how hsz hgrow rfl
      rw [var_byte' m hm] at hown'
      go_roundw
      case rel => exact ⟨m / 128, acc ++ [UInt8.ofNat (m % 128 + 128)], by go_num, by omega, by rw [← heq, varB_hi hlt]; simp, hb2, by simpa [eB] using hown'⟩
      case measure => simp [intOf]; omega
    · have ht : decide ((m : Int) ≥ 128) = false := by simp; omega
      go_wp2_with (at_builtin; refine wpList_append_own _ rfl _ _ _ rfl G 5 i0 _ 1 1 Try.underlying22 hi0 hz0 hz1 hz2 rfl (by decide) _ _ _ rfl (how.alloc _) ⟨wr.heap.size, 0, none⟩ 1 1 [.int .u8 (m : Int)] rfl rfl (cell_one_new _ _ _) (by simp [Value.oneCell']) (by unfold maxLen; omega) (by omega) (by simp; omega) ?_; intro v' w1 hown' hgrow _)
      have hb2 := below_app hbw how hsz hgrow rfl
      rw [var_last m (by omega)] at hown'
      rw [varB_lo (by omega)] at heq
      go_ret
      refine ⟨_, rfl, ?_, by rw [hG2.out]; exact hb2⟩
      rw [hG2.out, ← heq]
      simpa [eB] using hown'
end Go.Proofs.Ytonhhbebpcaaeaa
