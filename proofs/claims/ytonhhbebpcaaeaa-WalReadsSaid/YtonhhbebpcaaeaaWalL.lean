/- Reopen, Same, and the small living call of layer 5. -/
import Derived.Test.YtonhhbebpcaaeaaWrA
import Derived.Test.YtonhhbebpcaaeaaRefB
import Derived.Test.YtonhhbebpcaaeaaStr
namespace Go.Proofs.Ytonhhbebpcaaeaa
open Go.RowKit

/-- The reading of any bytes. -/
def readTop (xs : List UInt8) (log : Nat) : List (List UInt8) × Nat × Nat := if 1073741824 < xs.length then ([], 3, 0) else readAll xs log

theorem RecsV.nil (w : World) : RecsV w (.slice none 0 0) [] := ⟨none, 0, [], rfl, Nat.le_refl _, by unfold maxLen; omega, rfl, .inl rfl, Recs.nil _ _ _⟩

set_option maxRecDepth 100000 in
set_option maxHeartbeats 1000000 in
theorem walRead_w (log n c : Nat) (A : Option Addr) (xs : List UInt8) (w : World) (h : Bsl w w.heap.size A n c xs) :
    Calls Try.prog 9 #[.slice A n c, .int .u32 (log : Nat)] w fun e w' => ∃ v, e = .returned (.tuple #[v, .int .i64 ((readTop xs log).2.1 : Nat), .int .i64 ((readTop xs log).2.2 : Nat)]) ∧ RecsV w' v (readTop xs log).1 ∧ Below w.heap.size w w' := by
  have hlen := h.len
  by_cases hn : 1073741824 < n
  · have hv : Hid (readTop xs log = ([], 3, 0)) := by unfold Hid readTop; rw [if_pos (by omega)]
    have t1 : decide ((1073741824 : Int) < (n : Int)) = true := by simp; omega
    clear hn
    go_enter Try.func9, Try.ntmps9
    go_wp2
    go_ret3
    rw [hv.out]
    exact ⟨_, rfl, RecsV.nil _, Below.refl _ _⟩
  · have hv : readTop xs log = readAll xs log := by unfold readTop; rw [if_neg (by omega)]
    rw [hv]
    exact read_small log n c A xs w h (by omega)

set_option maxRecDepth 100000 in
set_option maxHeartbeats 1000000 in
theorem refRead_w (log n c : Nat) (A : Option Addr) (xs : List UInt8) (w : World) (h : Bsl w w.heap.size A n c xs) :
    Calls Try.prog 10 #[.slice A n c, .int .u32 (log : Nat)] w fun e w' => ∃ v, e = .returned (.tuple #[v, .int .i64 ((readTop xs log).2.1 : Nat), .int .i64 ((readTop xs log).2.2 : Nat)]) ∧ RecsV w' v (readTop xs log).1 ∧ Below w.heap.size w w' := by
  have hlen := h.len
  by_cases hn : 1073741824 < n
  · have hv : Hid (readTop xs log = ([], 3, 0)) := by unfold Hid readTop; rw [if_pos (by omega)]
    have t1 : decide ((1073741824 : Int) < (n : Int)) = true := by simp; omega
    clear hn
    go_enter Try.func10, Try.ntmps10
    go_wp2
    go_ret3
    rw [hv.out]
    exact ⟨_, rfl, RecsV.nil _, Below.refl _ _⟩
  · have hv : readTop xs log = readAll xs log := by unfold readTop; rw [if_neg (by omega)]
    rw [hv]
    exact refRead_small log n c A xs w h (by omega)

/-- Whether bytes can be written on, and the error where not. -/
def reopenErr (xs : List UInt8) (log : Nat) : Nat := if 1073741824 < xs.length then 2 else if (readTop xs log).2.1 ≠ 0 ∨ (readTop xs log).2.2 ≠ xs.length then 3 else 0

set_option maxRecDepth 100000 in
set_option maxHeartbeats 1000000 in
theorem reopen_w (log n c : Nat) (rec : Bool) (A : Option Addr) (xs : List UInt8) (w : World) (h : Bsl w w.heap.size A n c xs) :
    Calls Try.prog 11 #[.slice A n c, .int .u32 (log : Nat), .bool rec] w fun e w' => ∃ v, e = .returned (.tuple #[.pointer v, .int .i64 (reopenErr xs log : Nat)]) ∧ (reopenErr xs log = 0 → ∃ R, v = some ⟨R, 0, none⟩ ∧ WrIs w' R log rec n) ∧ (reopenErr xs log ≠ 0 → v = none) ∧ Below w.heap.size w w' := by
  have hlen := h.len
  have hcap := h.cap
  have hbig := h.big
  unfold maxLen at hbig
  have hrd := walRead_w log n c A xs w h
  by_cases hn : 1073741824 < n
  · have hv : Hid (reopenErr xs log = 2) := by unfold Hid reopenErr; rw [if_pos (by omega)]
    have t1 : decide ((1073741824 : Int) < (n : Int)) = true := by simp; omega
    clear hn
    go_enter Try.func11, Try.ntmps11
    go_wp2
    go_ret2
    rw [hv.out]
    exact ⟨_, rfl, by simp, fun _ => rfl, Below.refl _ _⟩
  · have t1 : decide ((1073741824 : Int) < (n : Int)) = false := by simp; omega
    have hv : Hid (reopenErr xs log = if (readTop xs log).2.1 ≠ 0 ∨ (readTop xs log).2.2 ≠ xs.length then 3 else 0) := by unfold Hid reopenErr; rw [if_neg (by omega)]
    rw [hlen] at hv
    generalize readTop xs log = r at *
    obtain ⟨l, how, place⟩ := r
    dsimp only at hrd hv
    by_cases k1 : how = 0
    · subst k1
      by_cases k2 : place = n
      · have hv2 : Hid (reopenErr xs log = 0) := by unfold Hid; rw [hv.out, if_neg (by simp; omega)]
        have t2 : ((place : Int) != (n : Int)) = false := by rw [k2]; simp
        clear hv hn
        go_enter Try.func11, Try.ntmps11
        go_wp2_with (go_at_call 9; refine hrd.mono ?_; rintro e w2 ⟨v, rfl, hv, hb⟩)
        go_ret2
        rw [hv2.out]
        exact ⟨_, rfl, fun _ => ⟨w2.heap.size, rfl, Blk.new _ _ _⟩, by simp, hb.alloc hb.size _⟩
      · have hv2 : Hid (reopenErr xs log = 3) := by unfold Hid; rw [hv.out, if_pos (by simp; omega)]
        have t2 : ((place : Int) != (n : Int)) = true := by rw [bne_iff_ne]; omega
        clear hv hn
        go_enter Try.func11, Try.ntmps11
        go_wp2_with (go_at_call 9; refine hrd.mono ?_; rintro e w2 ⟨v, rfl, hv, hb⟩)
        go_ret2
        rw [hv2.out]
        exact ⟨_, rfl, by simp, fun _ => rfl, hb⟩
    · have hv2 : Hid (reopenErr xs log = 3) := by unfold Hid; rw [hv.out, if_pos (by simp; omega)]
      have t2 : ((how : Int) != 0) = true := by rw [bne_iff_ne]; omega
      clear hv hn
      go_enter Try.func11, Try.ntmps11
      go_wp2_with (go_at_call 9; refine hrd.mono ?_; rintro e w2 ⟨v, rfl, hv, hb⟩)
      go_ret2
      rw [hv2.out]
      exact ⟨_, rfl, by simp, fun _ => rfl, hb⟩
set_option maxRecDepth 100000 in
set_option maxHeartbeats 1000000 in
theorem refReopen_w (log n c : Nat) (rec : Bool) (A : Option Addr) (xs : List UInt8) (w : World) (h : Bsl w w.heap.size A n c xs) :
    Calls Try.prog 12 #[.slice A n c, .int .u32 (log : Nat), .bool rec] w fun e w' => ∃ v, e = .returned (.tuple #[.pointer v, .int .i64 (reopenErr xs log : Nat)]) ∧ (reopenErr xs log = 0 → ∃ R, v = some ⟨R, 0, none⟩) ∧ (reopenErr xs log ≠ 0 → v = none) ∧ Below w.heap.size w w' := by
  have hlen := h.len
  have hcap := h.cap
  have hbig := h.big
  unfold maxLen at hbig
  have hrd := refRead_w log n c A xs w h
  by_cases hn : 1073741824 < n
  · have hv : Hid (reopenErr xs log = 2) := by unfold Hid reopenErr; rw [if_pos (by omega)]
    have t1 : decide ((1073741824 : Int) < (n : Int)) = true := by simp; omega
    clear hn
    go_enter Try.func12, Try.ntmps12
    go_wp2
    go_ret2
    rw [hv.out]
    exact ⟨_, rfl, by simp, fun _ => rfl, Below.refl _ _⟩
  · have t1 : decide ((1073741824 : Int) < (n : Int)) = false := by simp; omega
    have hv : Hid (reopenErr xs log = if (readTop xs log).2.1 ≠ 0 ∨ (readTop xs log).2.2 ≠ xs.length then 3 else 0) := by unfold Hid reopenErr; rw [if_neg (by omega)]
    rw [hlen] at hv
    generalize readTop xs log = r at *
    obtain ⟨l, how, place⟩ := r
    dsimp only at hrd hv
    by_cases k1 : how = 0
    · subst k1
      by_cases k2 : place = n
      · have hv2 : Hid (reopenErr xs log = 0) := by unfold Hid; rw [hv.out, if_neg (by simp; omega)]
        have t2 : ((place : Int) != (n : Int)) = false := by rw [k2]; simp
        clear hv hn
        go_enter Try.func12, Try.ntmps12
        go_wp2_with (go_at_call 10; refine hrd.mono ?_; rintro e w2 ⟨v, rfl, hv, hb⟩)
        go_ret2
        rw [hv2.out]
        exact ⟨_, rfl, fun _ => ⟨w2.heap.size, rfl⟩, by simp, hb.alloc hb.size _⟩
      · have hv2 : Hid (reopenErr xs log = 3) := by unfold Hid; rw [hv.out, if_pos (by simp; omega)]
        have t2 : ((place : Int) != (n : Int)) = true := by rw [bne_iff_ne]; omega
        clear hv hn
        go_enter Try.func12, Try.ntmps12
        go_wp2_with (go_at_call 10; refine hrd.mono ?_; rintro e w2 ⟨v, rfl, hv, hb⟩)
        go_ret2
        rw [hv2.out]
        exact ⟨_, rfl, by simp, fun _ => rfl, hb⟩
    · have hv2 : Hid (reopenErr xs log = 3) := by unfold Hid; rw [hv.out, if_pos (by simp; omega)]
      have t2 : ((how : Int) != 0) = true := by rw [bne_iff_ne]; omega
      clear hv hn
      go_enter Try.func12, Try.ntmps12
      go_wp2_with (go_at_call 10; refine hrd.mono ?_; rintro e w2 ⟨v, rfl, hv, hb⟩)
      go_ret2
      rw [hv2.out]
      exact ⟨_, rfl, by simp, fun _ => rfl, hb⟩

set_option maxHeartbeats 2000000 in
theorem same_w (v1 v2 : Value) (l m : List (List UInt8)) (w : World) (h1 : RecsV w v1 l) (h2 : RecsV w v2 m) :
    Calls Try.prog 13 #[v1, v2] w fun e w' => e = .returned (.bool (decide (l = m))) ∧ Below w.heap.size w w' := by
  obtain ⟨A1, c1, vals1, rfl, hc1, hb1, hv1, hr1, hl1⟩ := h1
  obtain ⟨A2, c2, vals2, rfl, hc2, hb2, hv2, hr2, hl2⟩ := h2
  unfold maxLen at hb1 hb2
  by_cases hlen : l.length = m.length
  · have t1 : ((l.length : Int) != (m.length : Int)) = false := by rw [hlen]; simp
    generalize hn : l.length = n at *
    generalize hm : m.length = n2 at *
    subst hlen
    have hnH := hide hn
    have hmH := hide hm
    clear hn hm
    go_enter Try.func13, Try.ntmps13
    go_wp2
    go_loopw [5] (fun i wr => ∃ k : Nat, k ≤ n ∧ i = .int .i64 k ∧ Below w.heap.size w wr ∧ Hid (l.take k = m.take k)) (fun i _ => n - (intOf i).toNat)
    case atStart => exact ⟨0, by omega, rfl, Below.refl _ _, rfl⟩
    case round =>
      obtain ⟨k, hk, rfl, hbw, hH⟩ := hrel
      by_cases hlt : k < n
      · have hl : k < l.length := by have := hnH.out; omega
        have hm : k < m.length := by have := hmH.out; omega
        obtain ⟨B1, n1, d1, e1, s1, -⟩ := hl1.2 k _ (List.getElem?_eq_getElem hl)
        obtain ⟨B2, n2, d2, e2, s2, -⟩ := hl2.2 k _ (List.getElem?_eq_getElem hm)
        obtain ⟨g1, o1, rfl, hg1, hc1'⟩ := hr1.get e1
        obtain ⟨g2, o2, rfl, hg2, hc2'⟩ := hr2.get e2
        have f1 := (hbw.cell (p := ⟨g1, o1 + k, none⟩) hg1).trans hc1'
        have f2 := (hbw.cell (p := ⟨g2, o2 + k, none⟩) hg2).trans hc2'
        have u1 : ∀ q, (convert 22 9 (.slice B1 n1 d1)).run Try.prog (wr.drewN q) = .ok (.string ⟨l[k].toArray⟩) (wr.drewN q) := fun q => run_conv_str Try.underlying22 Try.underlying5 Try.underlying9 ((s1.below hbw).drewN q)
        have u2 : ∀ q, (convert 22 9 (.slice B2 n2 d2)).run Try.prog (wr.drewN q) = .ok (.string ⟨m[k].toArray⟩) (wr.drewN q) := fun q => run_conv_str Try.underlying22 Try.underlying5 Try.underlying9 ((s2.below hbw).drewN q)
        have hst := hide (str_eq_iff l[k] m[k])
        have htk : Hid (l[k] = m[k] → l.take (k + 1) = m.take (k + 1)) := fun e => by
          rw [List.take_succ_eq_append_getElem hl, List.take_succ_eq_append_getElem hm, hH.out, e]
        have hne : Hid (l[k] ≠ m[k] → l ≠ m) := fun e e2 => e (by subst e2; rfl)
        generalize l[k] = x at *
        generalize m[k] = y at *
        by_cases hxy : x = y
        · have hb : (x == y) = true := by simp [hxy]
          have htk2 := hide (htk.out hxy)
          clear htk hne hxy hst
          go_wp2
          go_quiet (fail)
          go_wp2
          go_roundw
          case rel => exact ⟨k + 1, by omega, by go_num, below_drewN hbw _, htk2⟩
          case measure => simp [intOf]; omega
        · have hb : (x == y) = false := by simp [hxy]
          have hne2 : Hid (decide (l = m) = false) := by unfold Hid; simpa using hne.out hxy
          clear htk hne hxy hst
          go_wp2
          go_quiet (fail)
          go_wp2
          go_ret
          rw [hne2.out]
          exact ⟨rfl, below_drewN hbw _⟩
      · obtain rfl : k = n := by omega
        have he : Hid (decide (l = m) = true) := by
          have h1 := hH.out
          have h2 := hnH.out
          have h3 := hmH.out
          rw [List.take_of_length_le (by omega), List.take_of_length_le (by omega)] at h1
          unfold Hid
          simp [h1]
        go_wp2
        go_ret
        rw [he.out]
        exact ⟨rfl, hbw⟩
  · have t1 : ((l.length : Int) != (m.length : Int)) = true := by rw [bne_iff_ne]; omega
    have he : Hid (decide (l = m) = false) := by unfold Hid; simp; intro h; subst h; exact hlen rfl
    clear hlen
    go_enter Try.func13, Try.ntmps13
    go_wp2
    go_ret
    rw [he.out]
    exact ⟨rfl, Below.refl _ _⟩
end Go.Proofs.Ytonhhbebpcaaeaa
