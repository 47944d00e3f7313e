/- The reference's Check and numbered. -/
import Derived.Test.YtonhhbebpcaaeaaBatA
import Derived.Deep.QuietTactic
import Derived.BigQuiet
namespace Go.Proofs.Ytonhhbebpcaaeaa
open Go.RowKit

theorem numbered_w (seq n : Nat) (hs : seq < 18446744073709551616) (hn : n ≤ maxB) (w : World) :
    Calls Try.prog 50 #[.int .u64 seq, .int .i64 n] w fun e w' => e = .returned (.bool (fitsOf seq n)) ∧ w' = w := by
  unfold maxB at hn
  by_cases h1 : seq ≤ 72057594037927935
  · have d1 : decide ((seq : Int) ≤ 72057594037927935) = true := by simp; omega
    by_cases h2 : n = 0
    · subst h2
      have hc : Hid (fitsOf seq 0 = true) := by unfold Hid fitsOf; simp [h1]
      go_enter Try.func50, Try.ntmps50
      go_wp2
      go_ret
      exact ⟨by rw [hc.out]; rfl, rfl⟩
    · have d2 : ((n : Int) == 0) = false := by simp; omega
      have hc : Hid (fitsOf seq n = decide ((n : Int) - 1 ≤ 72057594037927935 - (seq : Int))) := by
        unfold Hid fitsOf
        have e : decide (n - 1 ≤ 72057594037927935 - seq) = decide ((n : Int) - 1 ≤ 72057594037927935 - (seq : Int)) := decide_eq_decide.2 (by omega)
        rw [e]
        simp [h1, h2]
      go_enter Try.func50, Try.ntmps50
      go_wp2
      go_ret
      exact ⟨by rw [hc.out]; rfl, rfl⟩
  · have d1 : decide ((seq : Int) ≤ 72057594037927935) = false := by simp; omega
    have hc : Hid (fitsOf seq n = false) := by unfold Hid fitsOf; simp [h1]
    go_enter Try.func50, Try.ntmps50
    go_wp2
    go_ret
    exact ⟨by rw [hc.out]; rfl, rfl⟩

set_option maxHeartbeats 2000000 in
theorem refCheck_w (r : Rec) (hr : r.Ok) (w : World) :
    Calls Try.prog 19 #[vRec r] w fun e w' => e = .returned (.int .i64 (checkOf r : Nat)) ∧ Below w.heap.size w w' := by
  obtain ⟨f, k, key, val⟩ := r
  have hf := hr.f
  have hk0 := hr.k0
  have hk1 := hr.k1
  have hkey := hr.key
  have hval := hr.val
  simp only [maxB] at hf hk0 hk1 hkey hval
  unfold vRec
  simp only
  have hB : Below w.heap.size w (w.alloc (.cells #[.int .u32 f, .int .i64 k, .string key, .string val] 44)) := (Below.refl _ _).alloc (Nat.le_refl _) _
  by_cases hneg : k < 0
  · have t0 : decide (k < 0) = true := by simp; omega
    have hc : Hid (checkOf ⟨f, k, key, val⟩ = 1) := by unfold Hid checkOf; rw [if_pos (.inl hneg)]
    go_enter Try.func19, Try.ntmps19
    go_wp2
    go_ret
    exact ⟨ret_int (by rw [hc.out]; rfl), hB⟩
  · have t0 : decide (k < 0) = false := by simp; omega
    by_cases hbig : 2 < k
    · have t1 : decide (k > 2) = true := by simp; omega
      have hc : Hid (checkOf ⟨f, k, key, val⟩ = 1) := by unfold Hid checkOf; rw [if_pos (.inr hbig)]
      go_enter Try.func19, Try.ntmps19
      go_wp2
      go_ret
      exact ⟨ret_int (by rw [hc.out]; rfl), hB⟩
    · have t1 : decide (k > 2) = false := by simp; omega
      by_cases h1 : 1024 < key.size
      · have d1 : decide ((key.size : Int) > 1024) = true := by simp; omega
        have hc : Hid (checkOf ⟨f, k, key, val⟩ = 2) := by unfold Hid checkOf; rw [if_neg (not_or.2 ⟨hneg, hbig⟩), if_pos (.inl h1)]
        go_enter Try.func19, Try.ntmps19
        go_wp2_with fail
        go_quiet (fail)
        go_wp2
        go_ret
        exact ⟨ret_int (by rw [hc.out]; rfl), below_drewN hB _⟩
      · have d1 : decide ((key.size : Int) > 1024) = false := by simp; omega
        have hm := fun w => most_w k w
        have hmm : mostOf k 9223372036854775807 ≤ 9223372036854775807 := by unfold mostOf; (repeat' split) <;> omega
        have h2' : mostOf k val.size < val.size ↔ mostOf k 9223372036854775807 < val.size := by unfold mostOf; (repeat' split) <;> omega
        by_cases h2 : mostOf k val.size < val.size
        · have hc : Hid (checkOf ⟨f, k, key, val⟩ = 2) := by unfold Hid checkOf; rw [if_neg (not_or.2 ⟨hneg, hbig⟩), if_pos (.inr h2)]
          rw [h2'] at h2
          clear h2'
          generalize mostOf k 9223372036854775807 = m at *
          have d2 : decide ((val.size : Int) > (m : Int)) = true := by simp; omega
          go_enter Try.func19, Try.ntmps19
          go_wp2_with fail
          go_quiet ((go_at_call 54; refine Calls.quiet_of_same (hm _)))
          go_wp2
          go_ret
          exact ⟨ret_int (by rw [hc.out]; rfl), below_drewN hB _⟩
        · have hc : Hid (checkOf ⟨f, k, key, val⟩ = 0) := by unfold Hid checkOf; rw [if_neg (not_or.2 ⟨hneg, hbig⟩), if_neg (not_or.2 ⟨h1, h2⟩)]
          rw [h2'] at h2
          clear h2'
          generalize mostOf k 9223372036854775807 = m at *
          have d2 : decide ((val.size : Int) > (m : Int)) = false := by simp; omega
          go_enter Try.func19, Try.ntmps19
          go_wp2_with fail
          go_quiet ((go_at_call 54; refine Calls.quiet_of_same (hm _)))
          go_wp2
          go_ret
          exact ⟨ret_int (by rw [hc.out]; rfl), below_drewN hB _⟩
end Go.Proofs.Ytonhhbebpcaaeaa
