/- Reading numbers in groups of seven bits: what is read, and the walks of codec.ReadVarint, sedimentref01.ReadVarint. -/
import Derived.Test.YtonhhbebpcaaeaaVar
import Derived.WalkSpells
import Derived.WalkLawsBesides
namespace Go.Proofs.Ytonhhbebpcaaeaa
open Go.RowKit

/-- What is read from place i on: the number, how many bytes, how it ended. -/
def rvGo (i n : Nat) : List UInt8 → Nat × Nat × Nat
  | [] => (0, 0, 4)
  | x :: xs => if i = 9 ∧ 1 < x.toNat then (0, 0, 3) else if 0 < i ∧ x.toNat = 0 then (0, 0, 3) else if x.toNat < 128 then (n + x.toNat % 128 * 128 ^ i, i + 1, 0) else rvGo (i + 1) (n + x.toNat % 128 * 128 ^ i) xs
def readVar (xs : List UInt8) : Nat × Nat × Nat := rvGo 0 0 xs

theorem rv_lt {i n x : Nat} (hi : i ≤ 9) (hn : n < 128 ^ i) (h9 : i = 9 → x ≤ 1) : n + x % 128 * 128 ^ i < 18446744073709551616 := by
  rcases Nat.lt_or_ge i 9 with h | h
  · have h2 : 128 ^ i ≤ 128 ^ 8 := Nat.pow_le_pow_right (by omega) (by omega)
    have h3 : x % 128 * 128 ^ i ≤ 127 * 128 ^ i := Nat.mul_le_mul_right _ (by omega)
    omega
  · obtain rfl : i = 9 := by omega
    have h1 := h9 rfl
    have h3 : x % 128 * 128 ^ 9 ≤ 1 * 128 ^ 9 := Nat.mul_le_mul_right _ (by omega)
    omega
theorem rv_next {i n x : Nat} (hn : n < 128 ^ i) : n + x % 128 * 128 ^ i < 128 ^ (i + 1) := by
  have h3 : x % 128 * 128 ^ i ≤ 127 * 128 ^ i := Nat.mul_le_mul_right _ (by omega)
  rw [Nat.pow_succ]
  omega
theorem rv_or {i n x : Nat} (hn : n < 128 ^ i) : n ||| x % 128 * 128 ^ i = n + x % 128 * 128 ^ i := by
  have e : (128 : Nat) ^ i = 2 ^ (7 * i) := by rw [Nat.pow_mul]
  rw [e] at hn ⊢
  rw [Nat.or_comm, Nat.mul_comm (x % 128), ← Nat.two_pow_add_eq_or_of_lt hn, Nat.add_comm]
theorem wrap64 (n : Int) : IntKind.u64.wrap n = n % 18446744073709551616 := by simp [IntKind.wrap, IntKind.bits, IntKind.signed]
/-- The model's spelling of the round. -/
theorem rv_spell {k s0 x : Nat} (hx : x < 256) (hv : s0 + x % 128 * 128 ^ k < 18446744073709551616) (ho : s0 ||| x % 128 * 128 ^ k = s0 + x % 128 * 128 ^ k) :
    bits .or .u64 (s0 : Int) (IntKind.u64.wrap (IntKind.u64.wrap (bits .and .u8 (x : Int) 127) * 2 ^ (7 * k))) = ((s0 + x % 128 * 128 ^ k : Nat) : Int) := by
  have h1 := u8_and_nat x 127 (by omega) (by omega)
  have e : (2 : Int) ^ (7 * k) = ((128 ^ k : Nat) : Int) := by rw [Int.natCast_pow, show ((128 : Nat) : Int) = 2 ^ 7 from rfl, ← Int.pow_mul]
  rw [show (127 : Int) = ((127 : Nat) : Int) from rfl, h1, and127_nat, e, wrap64, wrap64]
  have e2 : (((x % 128 : Nat) : Int) % 18446744073709551616 * ((128 ^ k : Nat) : Int)) % 18446744073709551616 = ((x % 128 * 128 ^ k : Nat) : Int) := by
    rw [show ((x % 128 : Nat) : Int) % 18446744073709551616 = ((x % 128 : Nat) : Int) by omega, ← Int.natCast_mul]
    generalize x % 128 * 128 ^ k = q at *
    omega
  rw [e2, u64_or_nat _ _ (by omega) (by omega), ho]
theorem rv_step (i n : Nat) (xs : List UInt8) (hi : i < xs.length) : rvGo i n (xs.drop i) = if i = 9 ∧ 1 < (xs.getD i 0).toNat then (0, 0, 3) else if 0 < i ∧ (xs.getD i 0).toNat = 0 then (0, 0, 3) else if (xs.getD i 0).toNat < 128 then (n + (xs.getD i 0).toNat % 128 * 128 ^ i, i + 1, 0) else rvGo (i + 1) (n + (xs.getD i 0).toNat % 128 * 128 ^ i) (xs.drop (i + 1)) := by
  rw [List.drop_eq_getElem_cons hi, show xs.getD i 0 = xs[i] by simp [hi]]
  rfl

theorem ret3 {a b c x y z : Value} (h1 : a = x) (h2 : b = y) (h3 : c = z) : Ending.returned (.tuple #[a, b, c]) = .returned (.tuple #[x, y, z]) := by rw [h1, h2, h3]

set_option maxRecDepth 100000 in
set_option maxHeartbeats 1000000 in
theorem readVarint_w (A : Option Addr) (n c : Nat) (xs : List UInt8) (w : World) (h : Bsl w w.heap.size A n c xs) :
    Calls Try.prog 122 #[.slice A n c] w fun e w' => e = .returned (.tuple #[.int .u64 ((readVar xs).1 : Nat), .int .i64 ((readVar xs).2.1 : Nat), .int .i64 ((readVar xs).2.2 : Nat)]) ∧ Below w.heap.size w w' := by
  have hl := h.len
  have hcap := h.cap
  have hbig := h.big
  unfold maxLen at hbig
  go_enter Try.func122, Try.ntmps122
  go_wp2
  go_loop [5, 6, 7, 10] (fun s _ _ i => ∃ (k : Nat) (s0 : Nat), k ≤ n ∧ k ≤ 9 ∧ s0 < 128 ^ k ∧ i = .int .i64 k ∧ s = .int .u64 s0 ∧ Hid (rvGo k s0 (xs.drop k) = readVar xs)) (fun _ _ _ i => n - (intOf i).toNat)
  case atStart => exact ⟨0, 0, by omega, by omega, by omega, rfl, rfl, rfl⟩
  case round =>
    obtain ⟨k, s0, hk, hk9, hs0, rfl, rfl, hH⟩ := hrel
    by_cases hlt : k < n
    · obtain ⟨g, o, rfl, hg, hcell⟩ := h.at_ hlt
      have hx := (xs.getD k 0).toNat_lt
      have hstep := rv_step k s0 xs (by omega)
      have hv := rv_lt (x := (xs.getD k 0).toNat) hk9 hs0
      have hn := rv_next (x := (xs.getD k 0).toNat) hs0
      have ho := rv_or (x := (xs.getD k 0).toNat) hs0
      rw [hstep] at hH
      clear hstep
      generalize (xs.getD k 0).toNat = x at *
      by_cases h9 : k = 9 ∧ 1 < x
      · rw [if_pos h9] at hH
        obtain ⟨rfl, h1⟩ := h9
        have t1 : decide ((x : Int) > 1) = true := by simp; omega
        clear hv hn ho
        go_wp2
        go_ret3
        rw [← hH.out]
        exact ⟨rfl, Below.refl _ _⟩
      · rw [if_neg h9] at hH
        have h91 : k = 9 → x ≤ 1 := fun e => by omega
        by_cases h0 : 0 < k ∧ x = 0
        · rw [if_pos h0] at hH
          obtain ⟨h0k, rfl⟩ := h0
          have t2 : decide ((k : Int) > 0) = true := by simp; omega
          clear hv hn ho
          by_cases k9 : k = 9
          · subst k9
            go_wp2
            go_ret3
            rw [← hH.out]
            exact ⟨rfl, Below.refl _ _⟩
          · have t3 : ((k : Int) == 9) = false := by simp; omega
            go_wp2
            go_ret3
            rw [← hH.out]
            exact ⟨rfl, Below.refl _ _⟩
        · rw [if_neg h0] at hH
          have hv := hv h91
          have hsh := hide (rv_spell hx hv ho)
          by_cases k9 : k = 9
          · subst k9
            obtain rfl : x = 1 := by omega
            go_wp2
            go_ret3
            rw [← hH.out]
            exact ⟨ret3 (congrArg (Value.int .u64) hsh.out) rfl rfl, Below.refl _ _⟩
          · have t3 : ((k : Int) == 9) = false := by simp; omega
            have hk8 : k ≤ 8 := by omega
            by_cases k0 : k = 0
            · subst k0
              rw [Nat.add_zero] at hcell
              have hsh0 := hsh.out
              rw [Nat.mul_zero, Int.pow_zero, Int.mul_one] at hsh0
              have hsh := hide hsh0
              clear hsh0
              by_cases hlo : x < 128
              · rw [if_pos hlo] at hH
                have t4 : decide ((x : Int) < 128) = true := by simp; omega
                go_wp2
                go_ret3
                rw [← hH.out]
                exact ⟨ret3 (congrArg (Value.int .u64) hsh.out) rfl rfl, Below.refl _ _⟩
              · rw [if_neg hlo] at hH
                have t4 : decide ((x : Int) < 128) = false := by simp; omega
                go_wp2
                go_round
                case rel => exact ⟨1, s0 + x % 128 * 128 ^ 0, by omega, by omega, hn, by go_num, congrArg (Value.int .u64) hsh.out, hH⟩
                case measure => simp [intOf]; omega
            · have t2 : decide ((k : Int) > 0) = true := by simp; omega
              have t5 : ((x : Int) == 0) = false := by simp; omega
              by_cases hlo : x < 128
              · rw [if_pos hlo] at hH
                have t4 : decide ((x : Int) < 128) = true := by simp; omega
                go_wp2
                go_ret3
                rw [← hH.out]
                exact ⟨ret3 (congrArg (Value.int .u64) hsh.out) rfl rfl, Below.refl _ _⟩
              · rw [if_neg hlo] at hH
                have t4 : decide ((x : Int) < 128) = false := by simp; omega
                go_wp2
                go_round
                case rel => exact ⟨k + 1, s0 + x % 128 * 128 ^ k, by omega, by omega, hn, by go_num, congrArg (Value.int .u64) hsh.out, hH⟩
                case measure => simp [intOf]; omega
    · obtain rfl : k = n := by omega
      have hfin : Hid ((0, 0, 4) = readVar xs) := by
        have := hH.out
        rwa [List.drop_of_length_le (by omega)] at this
      clear hH
      go_wp2
      go_ret3
      rw [← hfin.out]
      exact ⟨rfl, Below.refl _ _⟩
theorem rv_spell' {k s0 x : Nat} (hx : x < 256) (hv : s0 + x % 128 * 128 ^ k < 18446744073709551616) (ho : s0 ||| x % 128 * 128 ^ k = s0 + x % 128 * 128 ^ k) :
    bits .or .u64 (s0 : Int) (IntKind.u64.wrap (bits .and .u64 (x : Int) 127 * 2 ^ (7 * k))) = ((s0 + x % 128 * 128 ^ k : Nat) : Int) := by
  have h1 := u64_and_nat x 127 (by omega) (by omega)
  have e : (2 : Int) ^ (7 * k) = ((128 ^ k : Nat) : Int) := by rw [Int.natCast_pow, show ((128 : Nat) : Int) = 2 ^ 7 from rfl, ← Int.pow_mul]
  rw [show (127 : Int) = ((127 : Nat) : Int) from rfl, h1, and127_nat, e, wrap64]
  have e2 : (((x % 128 : Nat) : Int) * ((128 ^ k : Nat) : Int)) % 18446744073709551616 = ((x % 128 * 128 ^ k : Nat) : Int) := by
    rw [← Int.natCast_mul]
    generalize x % 128 * 128 ^ k = q at *
    omega
  rw [e2, u64_or_nat _ _ (by omega) (by omega), ho]

set_option maxRecDepth 100000 in
set_option maxHeartbeats 1000000 in
theorem refReadVarint_w (A : Option Addr) (n c : Nat) (xs : List UInt8) (w : World) (h : Bsl w w.heap.size A n c xs) :
    Calls Try.prog 123 #[.slice A n c] w fun e w' => e = .returned (.tuple #[.int .u64 ((readVar xs).1 : Nat), .int .i64 ((readVar xs).2.1 : Nat), .int .i64 ((readVar xs).2.2 : Nat)]) ∧ w' = w := by
  have hl := h.len
  have hcap := h.cap
  have hbig := h.big
  unfold maxLen at hbig
  go_enter Try.func123, Try.ntmps123
  go_wp2
  go_loop [5, 6, 7] (fun s i _ => ∃ (k : Nat) (s0 : Nat), k ≤ n ∧ k ≤ 9 ∧ s0 < 128 ^ k ∧ i = .int .i64 k ∧ s = .int .u64 s0 ∧ Hid (rvGo k s0 (xs.drop k) = readVar xs)) (fun _ i _ => n - (intOf i).toNat)
  case atStart => exact ⟨0, 0, by omega, by omega, by omega, rfl, rfl, rfl⟩
  case round =>
    obtain ⟨k, s0, hk, hk9, hs0, rfl, rfl, hH⟩ := hrel
    by_cases hlt : k < n
    · obtain ⟨g, o, rfl, hg, hcell⟩ := h.at_ hlt
      have hx := (xs.getD k 0).toNat_lt
      have hstep := rv_step k s0 xs (by omega)
      have hv := rv_lt (x := (xs.getD k 0).toNat) hk9 hs0
      have hn := rv_next (x := (xs.getD k 0).toNat) hs0
      have ho := rv_or (x := (xs.getD k 0).toNat) hs0
      rw [hstep] at hH
      clear hstep
      generalize (xs.getD k 0).toNat = x at *
      by_cases h9 : k = 9 ∧ 1 < x
      · rw [if_pos h9] at hH
        obtain ⟨rfl, h1⟩ := h9
        have t1 : decide ((x : Int) > 1) = true := by simp; omega
        clear hv hn ho
        go_wp2
        go_ret3
        rw [← hH.out]
        exact ⟨rfl, rfl⟩
      · rw [if_neg h9] at hH
        have h91 : k = 9 → x ≤ 1 := fun e => by omega
        by_cases h0 : 0 < k ∧ x = 0
        · rw [if_pos h0] at hH
          obtain ⟨h0k, rfl⟩ := h0
          have t2 : decide ((k : Int) > 0) = true := by simp; omega
          clear hv hn ho
          by_cases k9 : k = 9
          · subst k9
            go_wp2
            go_ret3
            rw [← hH.out]
            exact ⟨rfl, rfl⟩
          · have t3 : ((k : Int) == 9) = false := by simp; omega
            go_wp2
            go_ret3
            rw [← hH.out]
            exact ⟨rfl, rfl⟩
        · rw [if_neg h0] at hH
          have hv := hv h91
          have hsh := hide (rv_spell' hx hv ho)
          by_cases k9 : k = 9
          · subst k9
            obtain rfl : x = 1 := by omega
            go_wp2
            go_ret3
            rw [← hH.out]
            exact ⟨ret3 (congrArg (Value.int .u64) hsh.out) rfl rfl, rfl⟩
          · have t3 : ((k : Int) == 9) = false := by simp; omega
            have hk8 : k ≤ 8 := by omega
            by_cases k0 : k = 0
            · subst k0
              rw [Nat.add_zero] at hcell
              have hsh0 := hsh.out
              rw [Nat.mul_zero, Int.pow_zero, Int.mul_one] at hsh0
              have hsh := hide hsh0
              clear hsh0
              by_cases hlo : x < 128
              · rw [if_pos hlo] at hH
                have t4 : decide ((x : Int) < 128) = true := by simp; omega
                go_wp2
                go_ret3
                rw [← hH.out]
                exact ⟨ret3 (congrArg (Value.int .u64) hsh.out) rfl rfl, rfl⟩
              · rw [if_neg hlo] at hH
                have t4 : decide ((x : Int) < 128) = false := by simp; omega
                go_wp2
                go_round
                case rel => exact ⟨1, s0 + x % 128 * 128 ^ 0, by omega, by omega, hn, by go_num, congrArg (Value.int .u64) hsh.out, hH⟩
                case measure => simp [intOf]; omega
            · have t2 : decide ((k : Int) > 0) = true := by simp; omega
              have t5 : ((x : Int) == 0) = false := by simp; omega
              by_cases hlo : x < 128
              · rw [if_pos hlo] at hH
                have t4 : decide ((x : Int) < 128) = true := by simp; omega
                go_wp2
                go_ret3
                rw [← hH.out]
                exact ⟨ret3 (congrArg (Value.int .u64) hsh.out) rfl rfl, rfl⟩
              · rw [if_neg hlo] at hH
                have t4 : decide ((x : Int) < 128) = false := by simp; omega
                go_wp2
                go_round
                case rel => exact ⟨k + 1, s0 + x % 128 * 128 ^ k, by omega, by omega, hn, by go_num, congrArg (Value.int .u64) hsh.out, hH⟩
                case measure => simp [intOf]; omega
    · obtain rfl : k = n := by omega
      have hfin : Hid ((0, 0, 4) = readVar xs) := by
        have := hH.out
        rwa [List.drop_of_length_le (by omega)] at this
      clear hH
      go_wp2
      go_ret3
      rw [← hfin.out]
      exact ⟨rfl, rfl⟩
end Go.Proofs.Ytonhhbebpcaaeaa
