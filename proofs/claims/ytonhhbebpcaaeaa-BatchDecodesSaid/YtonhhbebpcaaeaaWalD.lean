/- The walk of the reader's next, where a block's rest is passed over, too. -/
import Derived.Test.YtonhhbebpcaaeaaWalC
namespace Go.Proofs.Ytonhhbebpcaaeaa
open Go.RowKit

/-- The next look, wherever it stands. -/
def nextP (xs : List UInt8) (log : Nat) (rec begun : Bool) (pos : Nat) : Nx :=
  if 4096 - pos % 4096 < headOf rec then
    if 4096 - pos % 4096 ≤ xs.length - pos then nextAt xs log rec begun (pos + (4096 - pos % 4096))
    else if zeros (xs.drop pos) = true then .stop (endOf begun) else .stop 1
  else nextAt xs log rec begun pos
/-- Where its fragment begins. -/
def baseP (xs : List UInt8) (rec : Bool) (pos : Nat) : Nat :=
  if 4096 - pos % 4096 < headOf rec ∧ 4096 - pos % 4096 ≤ xs.length - pos then pos + (4096 - pos % 4096) else pos
theorem nextP_eq (xs : List UInt8) (log : Nat) (rec begun : Bool) (pos : Nat) : nextP xs log rec begun pos = if 4096 - pos % 4096 < headOf rec then
    if 4096 - pos % 4096 ≤ xs.length - pos then nextAt xs log rec begun (pos + (4096 - pos % 4096))
    else if zeros (xs.drop pos) = true then .stop (endOf begun) else .stop 1
  else nextAt xs log rec begun pos := rfl
theorem FragPost.behind {w w1 : World} {R : Nat} {bs : Value} {log : Nat} {rec : Bool} {pos' : Nat → Nat} {begun : Bool} {B : Nat} {q : Nx} {e : Ending} {w' : World} (h : FragPost w1 R bs log rec pos' begun B q e w') (hg : w.grownBy w1 (some R)) :
    FragPost w R bs log rec pos' begun B q e w' := ⟨hg.trans h.1, h.2⟩

set_option maxHeartbeats 2000000 in
theorem next_w (R B : Nat) (log pos n c : Nat) (rec begun : Bool) (A : Option Addr) (xs : List UInt8) (w : World) (hB : B ≤ R) (hr : RdrIs w R (.slice A n c) log rec pos begun)
    (h : Bsl w B A n c xs) (hpos : pos ≤ n) (hn : n ≤ 1073741824) :
    Calls Try.prog 38 #[.pointer (some ⟨R, 0, none⟩)] w (FragPost w R (.slice A n c) log rec (fun k => baseP xs rec pos + (headOf rec + k)) begun B (nextP xs log rec begun pos)) := by
  obtain ⟨hH1, hH2⟩ := headOf_bd rec
  by_cases hroom : 4096 - pos % 4096 < headOf rec
  · have hlen := h.len
    have hcap := h.cap
    have hbig := h.big
    have hRlt := hr.lt
    unfold maxLen at hbig
    obtain ⟨c0, c1, c2, c3, c4, c5, f4, f5⟩ := hr.cells
    have hroom2 : decide ((4096 : Int) - (pos : Int) % 4096 < (headOf rec : Int)) = true := by simp; omega
    have hq := hide (nextP_eq xs log rec begun pos)
    rw [if_pos hroom, hlen] at hq
    have hbase : Hid (baseP xs rec pos = if 4096 - pos % 4096 ≤ xs.length - pos then pos + (4096 - pos % 4096) else pos) := by
      unfold Hid baseP
      simp only [hroom, true_and]
    rw [hlen] at hbase
    rcases Nat.eq_or_lt_of_le hpos with rfl | hlt
    · -- nothing is left
      have hq2 : Hid (nextP xs log rec begun pos = .stop (endOf begun)) := by
        unfold Hid
        rw [hq.out, if_neg (by omega), if_pos (by rw [List.drop_of_length_le (by omega)]; rfl)]
      clear hq hbase
      generalize nextP xs log rec begun pos = q at *
      generalize baseP xs rec pos = bp at *
      generalize hHH : headOf rec = H at *
      have hHH2 := hide hHH
      clear hHH
      have t1 : decide ((4096 : Int) - (pos : Int) % 4096 ≤ 0) = false := by simp; omega
      by_cases hc : c = pos
      · subst hc
        go_enter Try.func38, Try.ntmps38
        go_wp2
        go_quiet (fail)
        have hb1 : Below w.heap.size w (w.drewN nq) := below_drewN (Below.refl _ _) nq
        have hr1 : RdrIs (w.drewN nq) R (.slice A c c) log rec c begun := hr
        generalize w.drewN nq = w1 at *
        clear c0 c1 c2 c3 c4 c5 f4 f5
        obtain ⟨c0, c1, c2, c3, c4, c5, f4, f5⟩ := hr1.cells
        rw [hHH2.out] at c3
        have hend := end_w R begun w1 c5
        have hz0 : zeros [] = true := rfl
        go_wp2_with (first | (go_at_call 88; refine (noughts_w _ _ _ [] _ (Bsl.empty _ _ _ _ (by unfold maxLen; omega))).mono ?_; rw [hz0]; rintro e w2 ⟨rfl, rfl⟩) | (go_at_call 89; refine hend.mono ?_; rintro e w2 ⟨rfl, rfl⟩))
        go_ret3
        rw [hq2.out]
        exact ⟨grown_of_below hb1, rfl⟩
      · go_enter Try.func38, Try.ntmps38
        go_wp2
        go_quiet (fail)
        have hb1 : Below w.heap.size w (w.drewN nq) := below_drewN (Below.refl _ _) nq
        have hr1 : RdrIs (w.drewN nq) R (.slice A pos c) log rec pos begun := hr
        generalize w.drewN nq = w1 at *
        clear c0 c1 c2 c3 c4 c5 f4 f5
        obtain ⟨c0, c1, c2, c3, c4, c5, f4, f5⟩ := hr1.cells
        rw [hHH2.out] at c3
        have hend := end_w R begun w1 c5
        have hz0 : zeros [] = true := rfl
        go_wp2_with (first | (go_at_call 88; refine (noughts_w _ _ _ [] _ (Bsl.empty _ _ _ _ (by unfold maxLen; omega))).mono ?_; rw [hz0]; rintro e w2 ⟨rfl, rfl⟩) | (go_at_call 89; refine hend.mono ?_; rintro e w2 ⟨rfl, rfl⟩))
        go_ret3
        rw [hq2.out]
        exact ⟨grown_of_below hb1, rfl⟩
    · obtain ⟨g, o, rfl, hg, hcell⟩ := h.at_ (k := pos) hlt
      have hcut := h.cut (k := pos) hpos
      by_cases hk : 4096 - pos % 4096 ≤ n - pos
      · rw [if_pos hk] at hq hbase
        have t1 : decide ((4096 : Int) - (pos : Int) % 4096 ≤ ((n - pos : Nat) : Int)) = true := by simp; omega
        have hrec := fun w' hr' h' => nextAt_w R B log (pos + (4096 - pos % 4096)) n c rec begun (some ⟨g, o, none⟩) xs w' hB hr' h' (by omega) hn (by omega)
        have hrec2 := hide hrec
        rw [← hq.out, ← hbase.out] at hrec2
        clear hq hrec
        generalize nextP xs log rec begun pos = q at *
        generalize baseP xs rec pos = bp at *
        go_enter Try.func38, Try.ntmps38
        generalize hHH : headOf rec = H at *
        go_wp2
        go_quiet (fail)
        have hb1 : Below w.heap.size w (w.drewN nq) := below_drewN (Below.refl _ _) nq
        have hr1 : RdrIs (w.drewN nq) R (.slice (some ⟨g, o, none⟩) n c) log rec pos begun := hr
        have hcut1 := h.drewN nq
        have hs1 := hb1.size
        have hHH2 := hide hHH
        clear hHH
        generalize w.drewN nq = w1 at *
        clear c0 c1 c2 c3 c4 c5 f4 f5
        obtain ⟨c0, c1, c2, c3, c4, c5, f4, f5⟩ := hr1.cells
        rw [hHH2.out] at c3
        have hp : Hid ((pos : Int) + (4096 - (pos : Int) % 4096) = (bp : Nat)) := by unfold Hid; rw [hbase.out]; omega
        go_wp2_with fail
        go_at_call 38
        rw [hp.out]
        refine (hrec2.out _ (hr1.goes bp) (hcut1.below ((Below.refl B w1).setCell (p := ⟨R, 4, none⟩) hB _))).mono ?_
        rintro e w4 hpost
        have hpost2 := hpost.behind (w := w) (grown_set (grown_of_below hb1))
        obtain ⟨hg6, hm⟩ := hpost2
        cases q with
        | stop how =>
          obtain rfl := hm
          go_wp2
          go_ret3
          exact ⟨hg6, rfl⟩
        | frag t x =>
          obtain ⟨A', n', c', rfl, hx1, hx2⟩ := hm
          go_wp2
          go_ret3
          exact ⟨hg6, A', n', c', rfl, hx1, hx2⟩
      · rw [if_neg hk] at hq hbase
        have t1 : decide ((4096 : Int) - (pos : Int) % 4096 ≤ ((n - pos : Nat) : Int)) = false := by simp; omega
        have hz := hide (rfl : zeros (xs.drop pos) = zeros (xs.drop pos))
        generalize nextP xs log rec begun pos = q at *
        generalize baseP xs rec pos = bp at *
        generalize hHH : headOf rec = H at *
        have hHH2 := hide hHH
        clear hHH
        go_enter Try.func38, Try.ntmps38
        go_wp2
        go_quiet (fail)
        have hb1 : Below w.heap.size w (w.drewN nq) := below_drewN (Below.refl _ _) nq
        have hr1 : RdrIs (w.drewN nq) R (.slice (some ⟨g, o, none⟩) n c) log rec pos begun := hr
        have hcut1 := hcut.drewN nq
        have hs1 := hb1.size
        generalize w.drewN nq = w1 at *
        clear c0 c1 c2 c3 c4 c5 f4 f5
        obtain ⟨c0, c1, c2, c3, c4, c5, f4, f5⟩ := hr1.cells
        rw [hHH2.out] at c3
        have hno := noughts_w _ _ _ (xs.drop pos) w1 (hcut1.more (by omega))
        have hend := end_w R begun w1 c5
        by_cases hz : zeros (xs.drop pos) = true
        · rw [hz] at hno
          go_wp2_with (first | (go_at_call 88; refine hno.mono ?_; rintro e w2 ⟨rfl, rfl⟩) | (go_at_call 89; refine hend.mono ?_; rintro e w2 ⟨rfl, rfl⟩))
          go_ret3
          rw [hq.out, if_pos hz]
          exact ⟨grown_of_below hb1, rfl⟩
        · have hz2 : zeros (xs.drop pos) = false := by simpa using hz
          rw [hz2] at hno
          go_wp2_with (go_at_call 88; refine hno.mono ?_; rintro e w2 ⟨rfl, rfl⟩)
          go_ret3
          rw [hq.out, if_neg hz]
          exact ⟨grown_of_below hb1, rfl⟩
  · have hb : baseP xs rec pos = pos := by unfold baseP; rw [if_neg (by omega)]
    rw [nextP_eq, if_neg hroom, hb]
    exact nextAt_w R B log pos n c rec begun A xs w hB hr h hpos hn (by omega)
end Go.Proofs.Ytonhhbebpcaaeaa
