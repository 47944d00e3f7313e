/- Small walks of the log: the tests for noughts, the reader's end and bad, the reference's head, end, Recycled, ReadFixed. -/
import Derived.Test.YtonhhbebpcaaeaaProg
import Derived.Test.YtonhhbebpcaaeaaMem
import Derived.Test.YtonhhbebpcaaeaaBack
import Derived.WalkSpells
import Derived.WalkLawsBesides
import Derived.KernelRfl
namespace Go.Proofs.Ytonhhbebpcaaeaa
open Go.RowKit

/-- All bytes are 0. -/
def zeros (xs : List UInt8) : Bool := xs.all (· == 0)

theorem zeros_snoc (xs : List UInt8) (x : UInt8) : zeros (xs ++ [x]) = (zeros xs && x == 0) := by simp [zeros]

theorem isNot0_w (x : UInt8) (w : World) : Calls Try.prog 118 #[.int .u8 (x.toNat : Int)] w fun e w' => e = .returned (.bool (!(x == 0))) ∧ w' = w := by
  have he : Hid (((x.toNat : Int) != 0) = !(x == 0)) := by
    unfold Hid
    rw [Bool.eq_iff_iff]
    simp [bne_iff_ne]
    exact not_congr ⟨fun h => UInt8.toNat_inj.1 h, fun h => by rw [h]; rfl⟩
  go_enter Try.func118, Try.ntmps118
  go_wp2
  go_ret
  exact ⟨by first | rfl | (rw [he.out]; rfl), rfl⟩

set_option maxHeartbeats 1000000 in
theorem index0_w (A : Option Addr) (n c : Nat) (xs : List UInt8) (w : World) (h : Bsl w w.heap.size A n c xs) :
    Calls Try.prog 141 #[.slice A n c, .func (.func 118) #[] #[]] w fun e w' => (∃ i : Int, e = .returned (.int .i64 i) ∧ decide (0 ≤ i) = !(zeros xs)) ∧ w' = w := by
  have hl := h.len
  have hcap := h.cap
  have hbig := h.big
  unfold maxLen at hbig
  go_enter Try.func141, Try.ntmps141
  go_wp2
  go_loop [5, 8] (fun _ i => ∃ (k : Nat), k ≤ n ∧ i = .int .i64 k ∧ Hid (zeros (xs.take k) = true)) (fun _ i => n - (intOf i).toNat)
  case atStart => exact ⟨0, by omega, rfl, rfl⟩
  case round =>
    obtain ⟨k, hk, rfl, hz⟩ := hrel
    by_cases hlt : k < n
    · obtain ⟨g, o, rfl, hg, hcell⟩ := h.at_ hlt
      have ht : Hid (xs.take (k + 1) = xs.take k ++ [xs.getD k 0]) := by
        unfold Hid
        rw [List.take_succ_eq_append_getElem (by omega)]
        simp [List.getD, (by omega : k < xs.length)]
      have hd : Hid (xs = xs.take k ++ xs.getD k 0 :: xs.drop (k + 1)) := by
        unfold Hid
        simp [List.getD, (by omega : k < xs.length)]
      generalize xs.getD k 0 = x at *
      go_wp2_with fail
      refine (isNot0_w x _).mono ?_
      rintro e w' ⟨rfl, rfl⟩
      by_cases hx : x = 0
      · have hx1 : (x == 0) = true := by simp [hx]
        have hx2 := hide hx
        clear hx
        go_wp2
        go_round
        case rel => exact ⟨k + 1, by omega, by go_num, by rw [ht.out, zeros_snoc, hz.out, hx1]; rfl⟩
        case measure => simp [intOf]; omega
      · have hx1 : (x == 0) = false := by simp [hx]
        have hx2 := hide hx
        clear hx
        go_wp2
        go_ret
        refine ⟨⟨_, rfl, ?_⟩, rfl⟩
        rw [hd.out]
        have := hz.out
        unfold zeros at *
        simp [List.all_append, hx1]
    · obtain rfl : k = n := by omega
      rw [List.take_of_length_le (by omega)] at hz
      go_wp2
      go_ret
      exact ⟨⟨_, rfl, by rw [hz.out]; rfl⟩, rfl⟩

theorem any0_w (A : Option Addr) (n c : Nat) (xs : List UInt8) (w : World) (h : Bsl w w.heap.size A n c xs) :
    Calls Try.prog 117 #[.slice A n c, .func (.func 118) #[] #[]] w fun e w' => e = .returned (.bool (!(zeros xs))) ∧ w' = w := by
  have hc := index0_w A n c xs w h
  go_enter Try.func117, Try.ntmps117
  go_wp2_with (go_at_call 141; refine hc.mono ?_; rintro e w1 ⟨⟨i, rfl, hi⟩, rfl⟩)
  go_ret
  exact ⟨by first | rfl | (rw [← hi]), rfl⟩

theorem noughts_w (A : Option Addr) (n c : Nat) (xs : List UInt8) (w : World) (h : Bsl w w.heap.size A n c xs) :
    Calls Try.prog 88 #[.slice A n c] w fun e w' => e = .returned (.bool (zeros xs)) ∧ w' = w := by
  have hc := any0_w A n c xs w h
  generalize zeros xs = z at *
  go_enter Try.func88, Try.ntmps88
  go_wp2_with (go_at_call 117; refine hc.mono ?_; rintro e w1 ⟨rfl, rfl⟩)
  go_ret
  exact ⟨by simp, rfl⟩

set_option maxHeartbeats 1000000 in
theorem refNoughts_w (A : Option Addr) (n c : Nat) (xs : List UInt8) (w : World) (h : Bsl w w.heap.size A n c xs) :
    Calls Try.prog 41 #[.slice A n c] w fun e w' => e = .returned (.bool (zeros xs)) ∧ w' = w := by
  have hl := h.len
  have hcap := h.cap
  have hbig := h.big
  unfold maxLen at hbig
  go_enter Try.func41, Try.ntmps41
  go_wp2
  go_loop [3] (fun i => ∃ (k : Nat), k ≤ n ∧ i = .int .i64 k ∧ Hid (zeros (xs.take k) = true)) (fun i => n - (intOf i).toNat)
  case atStart => exact ⟨0, by omega, rfl, rfl⟩
  case round =>
    obtain ⟨k, hk, rfl, hz⟩ := hrel
    by_cases hlt : k < n
    · obtain ⟨g, o, rfl, hg, hcell⟩ := h.at_ hlt
      have ht : Hid (xs.take (k + 1) = xs.take k ++ [xs.getD k 0]) := by
        unfold Hid
        rw [List.take_succ_eq_append_getElem (by omega)]
        simp [List.getD, (by omega : k < xs.length)]
      have hd : Hid (xs = xs.take k ++ xs.getD k 0 :: xs.drop (k + 1)) := by
        unfold Hid
        simp [List.getD, (by omega : k < xs.length)]
      generalize xs.getD k 0 = x at *
      by_cases hx : x = 0
      · have hx1 : ((x.toNat : Int) != 0) = false := by simp [hx]
        have hx2 := hide hx
        clear hx
        go_wp2
        go_round
        case rel => exact ⟨k + 1, by omega, by go_num, by rw [ht.out, zeros_snoc, hz.out, hx2.out]; rfl⟩
        case measure => simp [intOf]; omega
      · have hx1 : ((x.toNat : Int) != 0) = true := by rw [bne_iff_ne]; intro h0; exact hx (UInt8.toNat_inj.1 (by simpa using h0))
        have hx2 := hide hx
        clear hx
        go_wp2
        go_ret
        refine ⟨?_, rfl⟩
        have h2 := hx2.out
        rw [hd.out]
        unfold zeros at *
        simp [List.all_append, h2]
    · obtain rfl : k = n := by omega
      rw [List.take_of_length_le (by omega)] at hz
      go_wp2
      go_ret
      exact ⟨by rw [hz.out]; rfl, rfl⟩

/-- How a log ends where noughts are left; where something is written that is none. -/
def endOf (begun : Bool) : Nat := if begun then 1 else 0
def badOf (rec : Bool) : Nat := if rec then 1 else 3
def headOf (rec : Bool) : Nat := if rec then 11 else 7

theorem bad_w (R : Nat) (rec : Bool) (w : World) (h2 : w.cell? ⟨R, 2, none⟩ = some (.bool rec)) :
    Calls Try.prog 90 #[.pointer (some ⟨R, 0, none⟩)] w fun e w' => e = .returned (.int .i64 (badOf rec : Nat)) ∧ w' = w := by
  cases rec
  · go_enter Try.func90, Try.ntmps90
    go_wp2
    go_ret
    exact ⟨rfl, rfl⟩
  · go_enter Try.func90, Try.ntmps90
    go_wp2
    go_ret
    exact ⟨rfl, rfl⟩
theorem end_w (R : Nat) (begun : Bool) (w : World) (h2 : w.cell? ⟨R, 5, none⟩ = some (.bool begun)) :
    Calls Try.prog 89 #[.pointer (some ⟨R, 0, none⟩)] w fun e w' => e = .returned (.int .i64 (endOf begun : Nat)) ∧ w' = w := by
  cases begun
  · go_enter Try.func89, Try.ntmps89
    go_wp2
    go_ret
    exact ⟨rfl, rfl⟩
  · go_enter Try.func89, Try.ntmps89
    go_wp2
    go_ret
    exact ⟨rfl, rfl⟩
theorem refEnd_w (begun : Bool) (w : World) :
    Calls Try.prog 42 #[.bool begun] w fun e w' => e = .returned (.int .i64 (endOf begun : Nat)) ∧ w' = w := by
  cases begun
  · go_enter Try.func42, Try.ntmps42
    go_wp2
    go_ret
    exact ⟨rfl, rfl⟩
  · go_enter Try.func42, Try.ntmps42
    go_wp2
    go_ret
    exact ⟨rfl, rfl⟩
theorem refHead_w (rec : Bool) (w : World) :
    Calls Try.prog 40 #[.bool rec] w fun e w' => e = .returned (.int .i64 (headOf rec : Nat)) ∧ w' = w := by
  cases rec
  · go_enter Try.func40, Try.ntmps40
    go_wp2
    go_ret
    exact ⟨rfl, rfl⟩
  · go_enter Try.func40, Try.ntmps40
    go_wp2
    go_ret
    exact ⟨rfl, rfl⟩

set_option maxHeartbeats 1000000 in
theorem refReadFixed_w (A : Option Addr) (n c size : Nat) (xs : List UInt8) (w : World) (h : Bsl w w.heap.size A n c xs) (hs : size ≤ 8) (hl : size ≤ n) :
    Calls Try.prog 63 #[.slice A n c, .int .i64 size] w fun e w' => e = .returned (.tuple #[.int .u64 (leNat (xs.take size) : Nat), .int .i64 0]) ∧ w' = w := by
  have hlen := h.len
  have hcap := h.cap
  have hbig := h.big
  unfold maxLen at hbig
  have hd : decide ((n : Int) < (size : Int)) = false := by simp; omega
  have hfin := hide (foldPairs_back xs size (by omega))
  go_enter Try.func63, Try.ntmps63
  go_wp2
  go_loop [6, 7] (fun s i => ∃ (k : Nat), k ≤ size ∧ i = .int .i64 ((k : Int) - 1) ∧ s = .int .u64 (foldPairs (backFrom xs size k) : Nat)) (fun _ i => (intOf i + 1).toNat)
  case atStart => exact ⟨size, by omega, by first | rfl | go_num, by simp [backFrom, foldPairs]⟩
  case round =>
    obtain ⟨k, hk, rfl, rfl⟩ := hrel
    rcases Nat.eq_zero_or_pos k with rfl | hpos
    · rw [show backFrom xs size 0 = backTo xs size by simp [backFrom, List.take_of_length_le, backTo_len], hfin.out]
      go_wp2
      go_ret2
      exact ⟨rfl, rfl⟩
    · obtain ⟨k, rfl⟩ : ∃ j, k = j + 1 := ⟨k - 1, by omega⟩
      obtain ⟨g, o, rfl, hg, hcell⟩ := h.at_ (k := k) (by omega)
      have hb256 : foldPairs (backFrom xs size (k + 1)) < 72057594037927936 := Nat.lt_of_lt_of_le (foldPairs_lt _) (Nat.pow_le_pow_right (n := 256) (j := 7) (by omega) (by rw [backFrom_len xs size _ hk]; omega))
      have hsn : Hid (foldPairs (backFrom xs size k) = foldPairs (backFrom xs size (k + 1)) * 256 + (xs.getD k 0).toNat) := by
        unfold Hid
        rw [backFrom_step xs size k (by omega), foldPairs_snoc]
      have hx := (xs.getD k 0).toNat_lt
      have hor := hide (or_byte (foldPairs (backFrom xs size (k + 1))) (xs.getD k 0).toNat hb256 hx)
      have he : ((k + 1 : Nat) : Int) - 1 = k := by omega
      rw [he]
      generalize (xs.getD k 0).toNat = b at *
      generalize foldPairs (backFrom xs size (k + 1)) = r at *
      have hxi : (b : Int) % 18446744073709551616 = b := by omega
      clear he
      go_wp2
      go_round
      case rel => exact ⟨k, by omega, by first | rfl | go_num, by rw [hsn.out, hor.out]⟩
      case measure => simp [intOf] <;> omega
end Go.Proofs.Ytonhhbebpcaaeaa
