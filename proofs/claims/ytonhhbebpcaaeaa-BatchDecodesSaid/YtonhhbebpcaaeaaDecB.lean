/- The walk of the reader's text. -/
import Derived.Test.YtonhhbebpcaaeaaDecA
import Derived.Test.YtonhhbebpcaaeaaStr
namespace Go.Proofs.Ytonhhbebpcaaeaa
open Go.RowKit

set_option maxRecDepth 100000 in
set_option maxHeartbeats 2000000 in
theorem text_rd (R most : Nat) (xs : List UInt8) (w : World) (h : Brd w R xs) :
    Calls Try.prog 103 #[.pointer (some ⟨R, 0, none⟩), .int .u64 most] w (TextPost w R most xs) := by
  have hv := varint_rd R most xs w h
  have hRw : R < w.heap.size := by obtain ⟨A, n, c, hB, hb⟩ := h; exact hB.lt
  have hvl : ∀ v ys, rdVar most xs = .ok (v, ys) → v < 18446744073709551616 := by
    intro v ys e
    unfold rdVar at e
    split at e
    · cases e
    · split at e
      · cases e
      · injection e with e
        injection e with e1 e2
        rw [← e1]
        exact readVar_lt xs
  have hpost : Hid (rdText most xs = match rdVar most xs with | .error e => .error e | .ok (n, ys) => if ys.length < n then .error 4 else .ok (strOf (ys.take n), ys.drop n)) := rfl
  unfold VarPost at hv
  cases hq : rdVar most xs with
  | error er =>
    rw [hq] at hv
    have hpost : Hid (rdText most xs = .error er) := by have := hpost.out; rw [hq] at this; exact this
    clear hq
    unfold pan at hv
    go_enter Try.func103, Try.ntmps103
    go_wp2_with (go_at_call 102; refine hv.mono ?_; rintro e w1 ⟨hg1, rfl⟩)
    refine ⟨rfl, hg1, ?_⟩
    rw [hpost.out]
    rfl
  | ok p =>
    obtain ⟨v, ys⟩ := p
    have hlv := hvl v ys hq
    rw [hq] at hv
    have hpost : Hid (rdText most xs = if ys.length < v then .error 4 else .ok (strOf (ys.take v), ys.drop v)) := by have := hpost.out; rw [hq] at this; exact this
    clear hq hvl
    go_enter Try.func103, Try.ntmps103
    go_wp2_with fail
    go_at_call 102
    refine hv.mono ?_
    rintro e w1 ⟨hg1, rfl, A, n, c, hB, hb⟩
    have hl := hb.len
    have hcap := hb.cap
    have hbig := hb.big
    unfold maxLen at hbig
    have c0 := hB.cell 0
    have z0 := hB.frozen 0
    simp only [List.getElem?_toArray, List.getElem?_cons_zero] at c0
    have hm : (n : Int) % 18446744073709551616 = n := by omega
    by_cases hsh : n < v
    · have d : decide ((v : Int) > (n : Int)) = true := by simp; omega
      go_wp2
      refine ⟨rfl, hg1, ?_⟩
      rw [hpost.out, if_pos (by omega)]
      rfl
    · have d : decide ((v : Int) > (n : Int)) = false := by simp; omega
      have hu : (convert 22 9 (.slice A v c)).run Try.prog w1 = .ok (.string (strOf (ys.take v))) w1 := run_conv_str Try.underlying22 Try.underlying5 Try.underlying9 (hb.take (k := v) (by omega))
      cases A with
      | none =>
        have hys : ys = [] := by
          rcases hb.rd with h1 | ⟨g, o, e, _⟩
          · simpa using h1
          · cases e
        subst hys
        simp only [List.length_nil] at hl
        subst hl
        obtain rfl : v = 0 := by omega
        go_wp2
        go_ret
        refine ⟨grown_set hg1, ?_⟩
        rw [hpost.out, if_neg (by simp)]
        exact ⟨rfl, Brd.put hB hb⟩
      | some a =>
        obtain ⟨g, o, s⟩ := a
        by_cases hn0 : n = 0
        · subst hn0
          have hys : ys = [] := List.eq_nil_of_length_eq_zero hl
          subst hys
          obtain rfl : v = 0 := by omega
          by_cases hc0 : c = 0
          · subst hc0
            go_wp2
            go_ret
            refine ⟨grown_set hg1, ?_⟩
            rw [hpost.out, if_neg (by simp)]
            exact ⟨rfl, Brd.put hB (Bsl.empty _ _ _ _ (by unfold maxLen; omega))⟩
          · go_wp2
            go_ret
            refine ⟨grown_set hg1, ?_⟩
            rw [hpost.out, if_neg (by simp)]
            exact ⟨rfl, Brd.put hB (Bsl.empty _ _ _ _ (by unfold maxLen; omega))⟩
        · obtain ⟨g', o', e, hg, hcell⟩ := hb.at_ (k := 0) (by omega)
          injection e with e
          injection e with e1 e2 e3
          subst e1 e2 e3
          have h1 := hb.cut (k := v) (by omega)
          have h0 := fun hk => hb.cut0 (k := v) hk (by omega)
          go_wp2
          · go_ret
            refine ⟨grown_set hg1, ?_⟩
            rw [hpost.out, if_neg (by omega)]
            exact ⟨rfl, Brd.put hB (h0 (by assumption))⟩
          · go_ret
            refine ⟨grown_set hg1, ?_⟩
            rw [hpost.out, if_neg (by omega)]
            exact ⟨rfl, Brd.put hB h1⟩
end Go.Proofs.Ytonhhbebpcaaeaa
