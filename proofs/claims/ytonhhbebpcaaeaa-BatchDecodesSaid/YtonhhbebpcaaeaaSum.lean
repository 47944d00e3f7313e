/- The walks of the sums: sedimentref01.Sum, codec.table, codec.Sum, the masks. -/
import Derived.Test.YtonhhbebpcaaeaaProg
import Derived.Test.YtonhhbebpcaaeaaMem
import Derived.Test.YtonhhbebpcaaeaaCrc
import Derived.WalkSpells
import Derived.WalkLawsBesides
import Derived.KernelRfl
namespace Go.Proofs.Ytonhhbebpcaaeaa
open Go.RowKit

set_option maxHeartbeats 1000000 in
theorem refSum_w (A : Option Addr) (n c : Nat) (xs : List UInt8) (w : World) (h : Bsl w w.heap.size A n c xs) :
    Calls Try.prog 93 #[.slice A n c] w fun e w' => e = .returned (.int .u32 (crc xs : Nat)) ∧ w' = w := by
  have hl := h.len
  have hcap := h.cap
  have hbig := h.big
  unfold maxLen at hbig
  go_enter Try.func93, Try.ntmps93
  go_wp2
  go_loop [3, 4] (fun s i => ∃ (k : Nat) (s0 : Nat), k ≤ n ∧ s0 < 4294967296 ∧ i = .int .i64 k ∧ s = .int .u32 s0 ∧ Hid (crcFold s0 (xs.drop k) ^^^ 4294967295 = crc xs)) (fun _ i => n - (intOf i).toNat)
  case atStart => exact ⟨0, 4294967295, by omega, by omega, rfl, rfl, rfl⟩
  case round =>
    obtain ⟨k, s0, hk, hs0, rfl, rfl, hH⟩ := hrel
    by_cases hlt : k < n
    · obtain ⟨g, o, rfl, hg, hcell⟩ := h.at_ hlt
      have hx := (xs.getD k 0).toNat_lt
      have hH2 : Hid (crcFold (stepN 8 (s0 ^^^ (xs.getD k 0).toNat)) (xs.drop (k + 1)) ^^^ 4294967295 = crc xs) := by
        have := hH.out
        rwa [crcFold_drop xs k (by omega)] at this
      have hxor := xorb_lt (xs.getD k 0) hs0
      have e0 := hide (u32_xor_nat s0 (xs.getD k 0).toNat hs0 (by omega))
      clear hH
      generalize (xs.getD k 0).toNat = x at *
      have ex : (x : Int) % 4294967296 = x := by omega
      go_wp2
      go_loop [3, 5] (fun s i => ∃ (j : Nat) (s1 : Nat), j ≤ 8 ∧ s1 < 4294967296 ∧ i = .int .i64 j ∧ s = .int .u32 s1 ∧ Hid (stepN (8 - j) s1 = stepN 8 (s0 ^^^ x))) (fun _ i => 8 - (intOf i).toNat)
      case atStart => exact ⟨0, s0 ^^^ x, by omega, hxor, rfl, by rw [e0.out], rfl⟩
      case round =>
        obtain ⟨j, s1, hj, hs1, rfl, rfl, hJ⟩ := hrel
        by_cases hlt' : j < 8
        · have e1 := and1 hs1
          have hJ2 : Hid (stepN (8 - (j + 1)) (step1 s1) = stepN 8 (s0 ^^^ x)) := by
            have := hJ.out
            rwa [show 8 - j = (8 - (j + 1)) + 1 by omega] at this
          have hs2 := step1_lt hs1
          clear hJ
          rcases Nat.mod_two_eq_zero_or_one s1 with hodd | hodd
          · have e2 := hide (step1_even hodd)
            rw [hodd] at e1
            clear hodd
            go_wp2
            go_round
            case rel => exact ⟨j + 1, step1 s1, by omega, hs2, by go_num, by rw [e2.out], hJ2⟩
            case measure => simp [intOf]; omega
          · have e2 := hide (step1_odd hs1 hodd)
            rw [hodd] at e1
            clear hodd
            go_wp2
            go_round
            case rel => exact ⟨j + 1, step1 s1, by omega, hs2, by go_num, by rw [e2.out], hJ2⟩
            case measure => simp [intOf]; omega
        · obtain rfl : j = 8 := by omega
          have hJ' : Hid (s1 = stepN 8 (s0 ^^^ x)) := hJ.out
          clear hJ
          go_wp2
          go_round
          case rel => exact ⟨k + 1, s1, by omega, hs1, by go_num, rfl, by rw [hJ'.out]; exact hH2⟩
          case measure => simp [intOf]; omega
    · obtain rfl : k = n := by omega
      have hfin : Hid (s0 ^^^ 4294967295 = crc xs) := by
        have := hH.out
        rwa [List.drop_of_length_le (by omega)] at this
      have e0 := hide (flip32 hs0)
      clear hH
      go_wp2
      go_ret
      exact ⟨ret_int (by rw [e0.out, hfin.out]), rfl⟩

theorem refMask_w (s : Nat) (h : s < 4294967296) (w : World) :
    Calls Try.prog 92 #[.int .u32 s] w fun e w' => e = .returned (.int .u32 (maskOf s : Nat)) ∧ w' = w := by
  have e0 := hide (mask_val h)
  go_enter Try.func92, Try.ntmps92
  go_wp2
  go_ret
  exact ⟨ret_int e0.out, rfl⟩

theorem rot_w (s : Nat) (h : s < 4294967296) (w : World) :
    Calls Try.prog 142 #[.int .u32 s, .int .i64 (-15)] w fun e w' => e = .returned (.int .u32 ((s / 32768 ||| s * 131072 % 4294967296 : Nat) : Int)) ∧ w' = w := by
  have e17 : bits .and .u64 (IntKind.u64.wrap (-15)) 31 = 17 := by decide +kernel
  go_enter Try.func142, Try.ntmps142
  go_wp2
  go_ret
  exact ⟨ret_int (rot_val h), rfl⟩

set_option maxRecDepth 100000 in
set_option maxHeartbeats 1000000 in
theorem table_w (w : World) :
    Calls Try.prog 143 #[] w fun e w' => ∃ g, e = .returned (.pointer (some ⟨g, 0, none⟩)) ∧ Below w.heap.size w w' ∧ g < w'.heap.size ∧ ∀ i, i < 256 → w'.cell? ⟨g, i, none⟩ = some (.int .u32 (stepN 8 i : Nat)) := by
  go_enter Try.func143, Try.ntmps143
  go_wp2
  generalize hg : w.heap.size = G
  have hw0 : Below G w (w.alloc (Obj.cells Try.zeroCells203 203)) := (Below.refl _ _).alloc (by omega) _
  have hb0 : Blk (w.alloc (Obj.cells Try.zeroCells203 203)) G 203 Try.zeroCells203 := by rw [← hg]; exact Blk.new _ _ _
  have hz0 : Try.zeroCells203.size = 256 := by decide +kernel
  generalize Try.zeroCells203 = Z at *
  generalize w.alloc (Obj.cells Z 203) = w1 at *
  have hg2 := hide hg
  clear hg
  go_loopw [4, 2, 3] (fun i _ _ wr => ∃ (k : Nat) (cur : Array Value), k ≤ 256 ∧ i = .int .i64 k ∧ Below G w wr ∧ Blk wr G 203 cur ∧ cur.size = 256 ∧ Hid (∀ i, i < k → cur[i]? = some (.int .u32 (stepN 8 i : Nat)))) (fun i _ _ _ => 256 - (intOf i).toNat)
  case atStart => exact ⟨0, Z, by omega, rfl, hw0, hb0, hz0, fun i hi => absurd hi (by omega)⟩
  case round =>
    obtain ⟨k, cur, hk, rfl, hbw, hblk, hcs, hcells⟩ := hrel
    by_cases hlt : k < 256
    · have hc : wr.cell? ⟨G, k, none⟩ = some (cur[k]'(by omega)) := by rw [hblk.cell]; simp [hcs, hlt]
      have hf := hblk.frozen k
      go_wp2
      go_loop [3, 9] (fun s i => ∃ (j : Nat) (s1 : Nat), j ≤ 8 ∧ s1 < 4294967296 ∧ i = .int .i64 j ∧ s = .int .u32 s1 ∧ Hid (stepN (8 - j) s1 = stepN 8 k)) (fun _ i => 8 - (intOf i).toNat)
      case atStart => exact ⟨0, k, by omega, by omega, rfl, by go_num, rfl⟩
      case round =>
        obtain ⟨j, s1, hj, hs1, rfl, rfl, hJ⟩ := hrel
        by_cases hlt' : j < 8
        · have hJ2 : Hid (stepN (8 - (j + 1)) (step1 s1) = stepN 8 k) := by
            have := hJ.out
            rwa [show 8 - j = (8 - (j + 1)) + 1 by omega] at this
          have hs2 := step1_lt hs1
          have e2 := hide (model_step' hs1)
          clear hJ
          go_wp2
          go_round
          case rel => exact ⟨j + 1, step1 s1, by omega, hs2, by go_num, by rw [e2.out], hJ2⟩
          case measure => simp [intOf]; omega
        · obtain rfl : j = 8 := by omega
          have hJ' : Hid (s1 = stepN 8 k) := hJ.out
          clear hJ
          go_wp2
          go_roundw
          case rel =>
            refine ⟨k + 1, cur.setIfInBounds k (.int .u32 s1), by omega, by go_num, hbw.setCell (p := ⟨G, k, none⟩) (by simp) _, hblk.set k _, by simp [hcs], fun i hi => ?_⟩
            rw [Array.getElem?_setIfInBounds]
            split
            · rename_i e; subst e; rw [if_pos (by omega), ← hJ'.out]
            · exact hcells.out i (by omega)
          case measure => simp [intOf]; omega
    · obtain rfl : k = 256 := by omega
      go_wp2
      go_ret
      refine ⟨G, rfl, by rw [hg2.out]; exact hbw, hblk.lt, fun i hi => by rw [hblk.cell]; exact hcells.out i hi⟩

theorem mask_w (s : Nat) (h : s < 4294967296) (w : World) :
    Calls Try.prog 119 #[.int .u32 s] w fun e w' => e = .returned (.int .u32 (maskOf s : Nat)) ∧ w' = w := by
  have e0 : Hid (((s / 32768 ||| s * 131072 % 4294967296 : Nat) : Int) + 2726488792 = (((s / 32768 ||| s * 131072 % 4294967296) + 2726488792 : Nat) : Int)) := by unfold Hid; omega
  have e1 : Hid ((((s / 32768 ||| s * 131072 % 4294967296) + 2726488792 : Nat) : Int) % 4294967296 = ((maskOf s : Nat) : Int)) := by unfold Hid maskOf; omega
  go_enter Try.func119, Try.ntmps119
  go_wp2_with fail
  go_at_call 142
  refine (rot_w s h _).mono ?_
  rintro e w' ⟨rfl, rfl⟩
  generalize (s / 32768 ||| s * 131072 % 4294967296) = q at *
  go_wp2
  go_ret
  exact ⟨ret_int (by rw [e0.out, e1.out]), rfl⟩

set_option maxRecDepth 100000 in
set_option maxHeartbeats 1000000 in
theorem sum_w (A : Option Addr) (n c : Nat) (xs : List UInt8) (w : World) (h : Bsl w w.heap.size A n c xs) :
    Calls Try.prog 120 #[.slice A n c] w fun e w' => e = .returned (.int .u32 (crc xs : Nat)) ∧ Below w.heap.size w w' := by
  have hl := h.len
  have hcap := h.cap
  have hbig := h.big
  unfold maxLen at hbig
  by_cases hn : n < 64
  · have hd : decide ((n : Int) < 64) = true := by simp; omega
    go_enter Try.func120, Try.ntmps120
    go_wp2
    go_loop [3, 5, 14] (fun s _ i => ∃ (k : Nat) (s0 : Nat), k ≤ n ∧ s0 < 4294967296 ∧ i = .int .i64 k ∧ s = .int .u32 s0 ∧ Hid (crcFold s0 (xs.drop k) ^^^ 4294967295 = crc xs)) (fun _ _ i => n - (intOf i).toNat)
    case atStart => exact ⟨0, 4294967295, by omega, by omega, rfl, rfl, rfl⟩
    case round =>
      obtain ⟨k, s0, hk, hs0, rfl, rfl, hH⟩ := hrel
      by_cases hlt : k < n
      · obtain ⟨g, o, rfl, hg, hcell⟩ := h.at_ hlt
        have hx := (xs.getD k 0).toNat_lt
        have hH2 : Hid (crcFold (stepN 8 (s0 ^^^ (xs.getD k 0).toNat)) (xs.drop (k + 1)) ^^^ 4294967295 = crc xs) := by
          have := hH.out
          rwa [crcFold_drop xs k (by omega)] at this
        have hxor := xorb_lt (xs.getD k 0) hs0
        have e0 := hide (u32_xor_nat s0 (xs.getD k 0).toNat hs0 (by omega))
        clear hH
        generalize (xs.getD k 0).toNat = x at *
        have ex : (x : Int) % 4294967296 = x := by omega
        go_wp2
        go_loop [3, 22] (fun s i => ∃ (j : Nat) (s1 : Nat), j ≤ 8 ∧ s1 < 4294967296 ∧ i = .int .i64 j ∧ s = .int .u32 s1 ∧ Hid (stepN (8 - j) s1 = stepN 8 (s0 ^^^ x))) (fun _ i => 8 - (intOf i).toNat)
        case atStart => exact ⟨0, s0 ^^^ x, by omega, hxor, rfl, by rw [e0.out], rfl⟩
        case round =>
          obtain ⟨j, s1, hj, hs1, rfl, rfl, hJ⟩ := hrel
          by_cases hlt' : j < 8
          · have hJ2 : Hid (stepN (8 - (j + 1)) (step1 s1) = stepN 8 (s0 ^^^ x)) := by
              have := hJ.out
              rwa [show 8 - j = (8 - (j + 1)) + 1 by omega] at this
            have hs2 := step1_lt hs1
            have e2 := hide (model_step' hs1)
            clear hJ
            go_wp2
            go_round
            case rel => exact ⟨j + 1, step1 s1, by omega, hs2, by go_num, by rw [e2.out], hJ2⟩
            case measure => simp [intOf]; omega
          · obtain rfl : j = 8 := by omega
            have hJ' : Hid (s1 = stepN 8 (s0 ^^^ x)) := hJ.out
            clear hJ
            go_wp2
            go_round
            case rel => exact ⟨k + 1, s1, by omega, hs1, by go_num, rfl, by rw [hJ'.out]; exact hH2⟩
            case measure => simp [intOf]; omega
      · obtain rfl : k = n := by omega
        have hfin : Hid (s0 ^^^ 4294967295 = crc xs) := by
          have := hH.out
          rwa [List.drop_of_length_le (by omega)] at this
        have e0 := hide (flip32 hs0)
        clear hH
        go_wp2
        go_ret
        exact ⟨ret_int (by rw [e0.out, hfin.out]), Below.refl _ _⟩
  · have hd : decide ((n : Int) < 64) = false := by simp; omega
    go_enter Try.func120, Try.ntmps120
    go_wp2_with fail
    go_at_call 143
    refine (table_w _).mono ?_
    rintro e w1 ⟨G, rfl, hb1, hG, hT⟩
    have h1 := h.ext hb1
    have hT2 := hide hT
    clear hT h
    go_wp2
    go_loop [3, 8, 38] (fun s _ i => ∃ (k : Nat) (s0 : Nat), k ≤ n ∧ s0 < 4294967296 ∧ i = .int .i64 k ∧ s = .int .u32 s0 ∧ Hid (crcFold s0 (xs.drop k) ^^^ 4294967295 = crc xs)) (fun _ _ i => n - (intOf i).toNat)
    case atStart => exact ⟨0, 4294967295, by omega, by omega, rfl, rfl, rfl⟩
    case round =>
      obtain ⟨k, s0, hk, hs0, rfl, rfl, hH⟩ := hrel
      by_cases hlt : k < n
      · obtain ⟨g, o, rfl, hg, hcell⟩ := h1.at_ hlt
        have hx := (xs.getD k 0).toNat_lt
        have hH2 : Hid (crcFold (stepN 8 (s0 ^^^ (xs.getD k 0).toNat)) (xs.drop (k + 1)) ^^^ 4294967295 = crc xs) := by
          have := hH.out
          rwa [crcFold_drop xs k (by omega)] at this
        have hs8 := stepN_lt 8 (xorb_lt (xs.getD k 0) hs0)
        clear hH
        generalize (xs.getD k 0).toNat = x at *
        have e5 := table_val s0 x (by omega)
        have e6 := hide (stepN_byte s0 x (by omega))
        have hq : (s0 % 256) ^^^ x < 256 := Nat.xor_lt_two_pow (n := 8) (by omega) (by omega)
        have e7 := hide (u32_xor_nat (s0 / 256) (stepN 8 ((s0 % 256) ^^^ x)) (by omega) (stepN_lt 8 (by omega)))
        have hcell2 := hT2.out _ hq
        generalize (s0 % 256) ^^^ x = q at *
        generalize stepN 8 q = t at *
        go_wp2
        go_round
        case rel => exact ⟨k + 1, _, by omega, hs8, by go_num, by rw [e6.out, ← e7.out, Int.natCast_ediv]; rfl, hH2⟩
        case measure => simp [intOf]; omega
      · obtain rfl : k = n := by omega
        have hfin : Hid (s0 ^^^ 4294967295 = crc xs) := by
          have := hH.out
          rwa [List.drop_of_length_le (by omega)] at this
        have e0 := hide (flip32 hs0)
        clear hH
        go_wp2
        go_ret
        exact ⟨ret_int (by rw [e0.out, hfin.out]), hb1⟩
end Go.Proofs.Ytonhhbebpcaaeaa
