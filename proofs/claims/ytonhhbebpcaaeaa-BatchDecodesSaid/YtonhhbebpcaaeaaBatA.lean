/- Records of a batch: what they are, which can be, their bytes; and the walks of Check, most, fits, numbered. -/
import Derived.Test.YtonhhbebpcaaeaaVarR
import Derived.Lib.AppendStr
namespace Go.Proofs.Ytonhhbebpcaaeaa
open Go.RowKit

structure Rec where
  f : Nat
  kind : Int
  key : ByteArray
  val : ByteArray
structure Rec.Ok (r : Rec) : Prop where
  f : r.f < 4294967296
  k0 : -9223372036854775808 ≤ r.kind
  k1 : r.kind < 9223372036854775808
  key : r.key.size ≤ maxB
  val : r.val.size ≤ maxB
def vRec (r : Rec) : Value := .agg #[.int .u32 (r.f : Nat), .int .i64 r.kind, .string r.key, .string r.val]
/-- How it is refused: 0, 1 or 2. -/
def mostOf (k : Int) (n : Nat) : Nat := if k = 1 then 16384 else if k = 2 then 1024 else n
def checkOf (r : Rec) : Nat := if r.kind < 0 ∨ 2 < r.kind then 1 else if 1024 < r.key.size ∨ mostOf r.kind r.val.size < r.val.size then 2 else 0
def fitsOf (seq n : Nat) : Bool := decide (seq ≤ 72057594037927935) && (decide (n = 0) || decide (n - 1 ≤ 72057594037927935 - seq))

set_option maxHeartbeats 1000000 in
theorem check_w (r : Rec) (hr : r.Ok) (w : World) :
    Calls Try.prog 18 #[vRec r] w fun e w' => e = .returned (.int .i64 (checkOf r : Nat)) ∧ Below w.heap.size w w' := by
  obtain ⟨f, k, key, val⟩ := r
  have hf := hr.f
  have hk0 := hr.k0
  have hk1 := hr.k1
  have hkey := hr.key
  have hval := hr.val
  simp only [maxB] at hf hk0 hk1 hkey hval
  unfold vRec
  simp only
  by_cases hbad : k < 0 ∨ 2 < k
  · have t0 : (k == 0) = false := by simp; omega
    have t1 : (k == 1) = false := by simp; omega
    have t2 : (k == 2) = false := by simp; omega
    have hc : Hid (checkOf ⟨f, k, key, val⟩ = 1) := by unfold Hid checkOf; rw [if_pos hbad]
    go_enter Try.func18, Try.ntmps18
    go_wp2
    go_ret
    exact ⟨ret_int (by rw [hc.out]; rfl), (Below.refl _ _).alloc (Nat.le_refl _) _⟩
  · by_cases h1 : 1024 < key.size
    · have d1 : decide ((key.size : Int) > 1024) = true := by simp; omega
      have hc : Hid (checkOf ⟨f, k, key, val⟩ = 2) := by unfold Hid checkOf; rw [if_neg hbad, if_pos (.inl h1)]
      obtain rfl | rfl | rfl : k = 0 ∨ k = 1 ∨ k = 2 := by omega
      all_goals
        go_enter Try.func18, Try.ntmps18
        go_wp2
        go_ret
        exact ⟨ret_int (by rw [hc.out]; rfl), (Below.refl _ _).alloc (Nat.le_refl _) _⟩
    · have d1 : decide ((key.size : Int) > 1024) = false := by simp; omega
      by_cases h2 : mostOf k val.size < val.size
      · have hc : Hid (checkOf ⟨f, k, key, val⟩ = 2) := by unfold Hid checkOf; rw [if_neg hbad, if_pos (.inr h2)]
        unfold mostOf at h2
        obtain rfl | rfl | rfl : k = 0 ∨ k = 1 ∨ k = 2 := by omega
        · simp at h2
        · have d2 : decide ((val.size : Int) > 16384) = true := by simp at h2 ⊢; omega
          go_enter Try.func18, Try.ntmps18
          go_wp2
          go_ret
          exact ⟨ret_int (by rw [hc.out]; rfl), (Below.refl _ _).alloc (Nat.le_refl _) _⟩
        · have d2 : decide ((val.size : Int) > 1024) = true := by simp at h2 ⊢; omega
          go_enter Try.func18, Try.ntmps18
          go_wp2
          go_ret
          exact ⟨ret_int (by rw [hc.out]; rfl), (Below.refl _ _).alloc (Nat.le_refl _) _⟩
      · have hc : Hid (checkOf ⟨f, k, key, val⟩ = 0) := by unfold Hid checkOf; rw [if_neg hbad, if_neg (not_or.2 ⟨h1, h2⟩)]
        unfold mostOf at h2
        obtain rfl | rfl | rfl : k = 0 ∨ k = 1 ∨ k = 2 := by omega
        · have d2 : decide ((val.size : Int) > (val.size : Int)) = false := by simp
          go_enter Try.func18, Try.ntmps18
          go_wp2
          go_ret
          exact ⟨ret_int (by rw [hc.out]; rfl), (Below.refl _ _).alloc (Nat.le_refl _) _⟩
        · have d2 : decide ((val.size : Int) > 16384) = false := by simp at h2 ⊢; omega
          go_enter Try.func18, Try.ntmps18
          go_wp2
          go_ret
          exact ⟨ret_int (by rw [hc.out]; rfl), (Below.refl _ _).alloc (Nat.le_refl _) _⟩
        · have d2 : decide ((val.size : Int) > 1024) = false := by simp at h2 ⊢; omega
          go_enter Try.func18, Try.ntmps18
          go_wp2
          go_ret
          exact ⟨ret_int (by rw [hc.out]; rfl), (Below.refl _ _).alloc (Nat.le_refl _) _⟩

/-- most, of kinds that can be. -/
theorem most_w (k : Int) (w : World) :
    Calls Try.prog 54 #[.int .i64 k] w fun e w' => e = .returned (.int .i64 (mostOf k 9223372036854775807 : Nat)) ∧ w' = w := by
  by_cases h1 : k = 1
  · subst h1
    go_enter Try.func54, Try.ntmps54
    go_wp2
    go_ret
    exact ⟨rfl, rfl⟩
  · by_cases h2 : k = 2
    · subst h2
      go_enter Try.func54, Try.ntmps54
      go_wp2
      go_ret
      exact ⟨rfl, rfl⟩
    · have t1 : (k == 1) = false := by simp; omega
      have t2 : (k == 2) = false := by simp; omega
      have hc : Hid (mostOf k 9223372036854775807 = 9223372036854775807) := by unfold Hid mostOf; rw [if_neg h1, if_neg h2]
      go_enter Try.func54, Try.ntmps54
      go_wp2
      go_ret
      exact ⟨ret_int (by rw [hc.out]; rfl), rfl⟩

theorem fits_w (seq n : Nat) (hs : seq < 18446744073709551616) (hn : n ≤ maxB) (w : World) :
    Calls Try.prog 46 #[.int .u64 seq, .int .i64 n] w fun e w' => e = .returned (.bool (fitsOf seq n)) ∧ w' = w := by
  unfold maxB at hn
  by_cases h1 : seq ≤ 72057594037927935
  · have d1 : decide ((seq : Int) ≤ 72057594037927935) = true := by simp; omega
    by_cases h2 : n = 0
    · subst h2
      have hc : Hid (fitsOf seq 0 = true) := by unfold Hid fitsOf; simp [h1]
      go_enter Try.func46, Try.ntmps46
      go_wp2
      go_ret
      exact ⟨by rw [hc.out]; rfl, rfl⟩
    · have d2 : ((n : Int) == 0) = false := by simp; omega
      have hc : Hid (fitsOf seq n = decide ((n : Int) - 1 ≤ 72057594037927935 - (seq : Int))) := by
        unfold Hid fitsOf
        have e : decide (n - 1 ≤ 72057594037927935 - seq) = decide ((n : Int) - 1 ≤ 72057594037927935 - (seq : Int)) := decide_eq_decide.2 (by omega)
        rw [e]
        simp [h1, h2]
      go_enter Try.func46, Try.ntmps46
      go_wp2
      go_ret
      exact ⟨by rw [hc.out]; rfl, rfl⟩
  · have d1 : decide ((seq : Int) ≤ 72057594037927935) = false := by simp; omega
    have hc : Hid (fitsOf seq n = false) := by unfold Hid fitsOf; simp [h1]
    go_enter Try.func46, Try.ntmps46
    go_wp2
    go_ret
    exact ⟨by rw [hc.out]; rfl, rfl⟩
end Go.Proofs.Ytonhhbebpcaaeaa
