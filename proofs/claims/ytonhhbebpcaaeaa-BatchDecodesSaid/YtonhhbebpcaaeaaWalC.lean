/- The walk of the reader's next. -/
import Derived.Test.YtonhhbebpcaaeaaWalB
namespace Go.Proofs.Ytonhhbebpcaaeaa
open Go.RowKit

/-- How many bytes the fragment's head says. -/
def sizeP (rec : Bool) (rest : List UInt8) : Nat := headOf rec + (rest.getD 4 0).toNat + (rest.getD 5 0).toNat * 256
/-- A look where a head fits into the block. -/
def nextAt (xs : List UInt8) (log : Nat) (rec begun : Bool) (pos : Nat) : Nx :=
  if zeros (xs.drop pos) = true then .stop (endOf begun)
  else if xs.length - pos < headOf rec then .stop 1
  else if 4096 - pos % 4096 < sizeP rec (xs.drop pos) then .stop (badOf rec)
  else if xs.length - pos < sizeP rec (xs.drop pos) then .stop 1
  else fragP log rec begun ((xs.drop pos).take (sizeP rec (xs.drop pos)))

theorem nextAt_eq (xs : List UInt8) (log : Nat) (rec begun : Bool) (pos : Nat) : nextAt xs log rec begun pos = if zeros (xs.drop pos) = true then .stop (endOf begun)
  else if xs.length - pos < headOf rec then .stop 1
  else if 4096 - pos % 4096 < sizeP rec (xs.drop pos) then .stop (badOf rec)
  else if xs.length - pos < sizeP rec (xs.drop pos) then .stop 1
  else fragP log rec begun ((xs.drop pos).take (sizeP rec (xs.drop pos))) := rfl
theorem headOf_bd (rec : Bool) : 7 ≤ headOf rec ∧ headOf rec ≤ 11 := by cases rec <;> simp [headOf]

set_option maxHeartbeats 2000000 in
theorem nextAt_w (R B : Nat) (log pos n c : Nat) (rec begun : Bool) (A : Option Addr) (xs : List UInt8) (w : World) (hB : B ≤ R) (hr : RdrIs w R (.slice A n c) log rec pos begun)
    (h : Bsl w B A n c xs) (hpos : pos ≤ n) (hn : n ≤ 1073741824) (hroom : headOf rec ≤ 4096 - pos % 4096) :
    Calls Try.prog 38 #[.pointer (some ⟨R, 0, none⟩)] w (FragPost w R (.slice A n c) log rec (fun k => pos + (headOf rec + k)) begun B (nextAt xs log rec begun pos)) := by
  have hlen := h.len
  have hcap := h.cap
  have hbig := h.big
  have hRlt := hr.lt
  unfold maxLen at hbig
  obtain ⟨hH1, hH2⟩ := headOf_bd rec
  obtain ⟨c0, c1, c2, c3, c4, c5, f4, f5⟩ := hr.cells
  have hq := hide (nextAt_eq xs log rec begun pos)
  rw [hlen] at hq
  generalize hgq : nextAt xs log rec begun pos = q at *
  clear hgq
  have hdrop := h.drop hpos
  have hroom2 : decide ((4096 : Int) - (pos : Int) % 4096 < (headOf rec : Int)) = false := by simp; omega
  rcases Nat.eq_or_lt_of_le hpos with rfl | hlt
  · -- nothing is left
    have hq2 : Hid (q = .stop (endOf begun)) := by
      unfold Hid
      rw [hq.out, if_pos (by rw [List.drop_of_length_le (by omega)]; rfl)]
    clear hq
    clear hdrop
    generalize hHH : headOf rec = H at *
    have hHH2 := hide hHH
    clear hHH
    by_cases hc : c = pos
    · subst hc
      go_enter Try.func38, Try.ntmps38
      go_wp2
      go_quiet (fail)
      have hb1 : Below w.heap.size w (w.drewN nq) := below_drewN (Below.refl _ _) nq
      have hr1 : RdrIs (w.drewN nq) R (.slice A c c) log rec c begun := hr
      generalize w.drewN nq = w1 at *
      clear c0 c1 c2 c3 c4 c5 f4 f5
      obtain ⟨c0, c1, c2, c3, c4, c5, f4, f5⟩ := hr1.cells
      rw [hHH2.out] at c3
      have hend := end_w R begun w1 c5
      have hz0 : zeros [] = true := rfl
      go_wp2_with (first | (go_at_call 88; refine (noughts_w _ _ _ [] _ (Bsl.empty _ _ _ _ (by unfold maxLen; omega))).mono ?_; rw [hz0]; rintro e w2 ⟨rfl, rfl⟩) | (go_at_call 89; refine hend.mono ?_; rintro e w2 ⟨rfl, rfl⟩))
      go_ret3
      rw [hq2.out]
      exact ⟨grown_of_below hb1, rfl⟩
    · go_enter Try.func38, Try.ntmps38
      go_wp2
      go_quiet (fail)
      have hb1 : Below w.heap.size w (w.drewN nq) := below_drewN (Below.refl _ _) nq
      have hr1 : RdrIs (w.drewN nq) R (.slice A pos c) log rec pos begun := hr
      generalize w.drewN nq = w1 at *
      clear c0 c1 c2 c3 c4 c5 f4 f5
      obtain ⟨c0, c1, c2, c3, c4, c5, f4, f5⟩ := hr1.cells
      rw [hHH2.out] at c3
      have hend := end_w R begun w1 c5
      have hz0 : zeros [] = true := rfl
      go_wp2_with (first | (go_at_call 88; refine (noughts_w _ _ _ [] _ (Bsl.empty _ _ _ _ (by unfold maxLen; omega))).mono ?_; rw [hz0]; rintro e w2 ⟨rfl, rfl⟩) | (go_at_call 89; refine hend.mono ?_; rintro e w2 ⟨rfl, rfl⟩))
      go_ret3
      rw [hq2.out]
      exact ⟨grown_of_below hb1, rfl⟩
  · obtain ⟨g, o, rfl, hg, hcell⟩ := h.at_ (k := pos) hlt
    rw [if_neg (by omega)] at hdrop
    have hcut := h.cut (k := pos) hpos
    clear hdrop hcell
    have hgenH : Hid (sizeP rec (xs.drop pos) = headOf rec + ((xs.drop pos).getD 4 0).toNat + ((xs.drop pos).getD 5 0).toNat * 256) := rfl
    have hbx4 := ((xs.drop pos).getD 4 0).toNat_lt
    have hbx5 := ((xs.drop pos).getD 5 0).toNat_lt
    go_enter Try.func38, Try.ntmps38
    generalize hHH : headOf rec = H at *
    have hHH2 := hide hHH
    clear hHH
    go_wp2
    go_quiet (fail)
    have hb1 : Below w.heap.size w (w.drewN nq) := below_drewN (Below.refl _ _) nq
    have hr1 : RdrIs (w.drewN nq) R (.slice (some ⟨g, o, none⟩) n c) log rec pos begun := hr
    have hcut1 := hcut.drewN nq
    generalize w.drewN nq = w1 at *
    have hs1 := hb1.size
    clear c0 c1 c2 c3 c4 c5 f4 f5
    obtain ⟨c0, c1, c2, c3, c4, c5, f4, f5⟩ := hr1.cells
    rw [hHH2.out] at c3
    have hno := noughts_w _ _ _ (xs.drop pos) w1 (hcut1.more (by omega))
    have hend := end_w R begun w1 c5
    have hbad := bad_w R rec w1 c2
    by_cases hz : zeros (xs.drop pos) = true
    · rw [hz] at hno
      go_wp2_with (first | (go_at_call 88; refine hno.mono ?_; rintro e w2 ⟨rfl, rfl⟩) | (go_at_call 89; refine hend.mono ?_; rintro e w2 ⟨rfl, rfl⟩))
      go_ret3
      rw [hq.out, if_pos hz]
      exact ⟨grown_of_below hb1, rfl⟩
    · have hz2 : zeros (xs.drop pos) = false := by simpa using hz
      rw [hz2] at hno
      by_cases hl : n - pos < H
      · have t1 : decide (((n - pos : Nat) : Int) < (H : Int)) = true := by simp; omega
        go_wp2_with (go_at_call 88; refine hno.mono ?_; rintro e w2 ⟨rfl, rfl⟩)
        go_ret3
        rw [hq.out, if_neg hz, if_pos hl]
        exact ⟨grown_of_below hb1, rfl⟩
      · have t1 : decide (((n - pos : Nat) : Int) < (H : Int)) = false := by simp; omega
        obtain ⟨g4, o4, e4, hg4, hc4⟩ := hcut1.at_ (k := 4) (by omega)
        obtain ⟨g5, o5, e5, hg5, hc5⟩ := hcut1.at_ (k := 5) (by omega)
        simp only [Option.some.injEq, Addr.mk.injEq, and_true] at e4 e5
        obtain ⟨rfl, rfl⟩ := e4
        obtain ⟨rfl, rfl⟩ := e5
        generalize ((xs.drop pos).getD 4 0).toNat = b4 at *
        generalize ((xs.drop pos).getD 5 0).toNat = b5 at *
        go_wp2_with (go_at_call 88; refine hno.mono ?_; rintro e w2 ⟨rfl, rfl⟩)
        go_quiet (fail)
        have hb3 : Below w.heap.size w (w2.drewN nq) := below_drewN hb1 nq
        have hr3 : RdrIs (w2.drewN nq) R (.slice (some ⟨g, o, none⟩) n c) log rec pos begun := hr1
        have hcut3 := hcut1.drewN nq
        clear hb1 hr1 hcut1 hc4 hc5 hno hend hbad
        generalize w2.drewN nq = w3 at *
        clear c0 c1 c2 c3 c4 c5 f4 f5 hs1
        obtain ⟨c0, c1, c2, c3, c4, c5, f4, f5⟩ := hr3.cells
        have hbad := bad_w R rec w3 c2
        by_cases k1 : 4096 - pos % 4096 < H + b4 + b5 * 256
        · have t2 : decide ((4096 : Int) - (pos : Int) % 4096 < (H : Int) + (b4 : Int) + (b5 : Int) * 256) = true := by simp; omega
          go_wp2_with (go_at_call 90; refine hbad.mono ?_; rintro e w4 ⟨rfl, rfl⟩)
          go_ret3
          rw [hq.out, if_neg hz, if_neg hl, if_pos (by rw [hgenH.out]; exact k1)]
          exact ⟨grown_of_below hb3, rfl⟩
        · have t2 : decide ((4096 : Int) - (pos : Int) % 4096 < (H : Int) + (b4 : Int) + (b5 : Int) * 256) = false := by simp; omega
          by_cases k2 : n - pos < H + b4 + b5 * 256
          · have t3 : decide (((n - pos : Nat) : Int) < (H : Int) + (b4 : Int) + (b5 : Int) * 256) = true := by simp; omega
            go_wp2
            go_ret3
            rw [hq.out, if_neg hz, if_neg hl, if_neg (by rw [hgenH.out]; exact k1), if_pos (by rw [hgenH.out]; exact k2)]
            exact ⟨grown_of_below hb3, rfl⟩
          · have t3 : decide (((n - pos : Nat) : Int) < (H : Int) + (b4 : Int) + (b5 : Int) * 256) = false := by simp; omega
            have hs3 := hb3.size
            have hfr := frag_w R B (.slice (some ⟨g, o, none⟩) n c) log pos (H + b4 + b5 * 256) (c - pos) rec begun _ _ w3 hB hr3 (hcut3.take (k := H + b4 + b5 * 256) (by omega)) (by rw [hHH2.out]; omega) (by omega)
            rw [← hgenH.out] at hfr
            have hq4 : Hid (q = fragP log rec begun ((xs.drop pos).take (sizeP rec (xs.drop pos)))) := by
              unfold Hid
              rw [hq.out, if_neg hz, if_neg hl, if_neg (by rw [hgenH.out]; exact k1), if_neg (by rw [hgenH.out]; exact k2)]
            rw [← hq4.out, hgenH.out] at hfr
            generalize fragP log rec begun ((xs.drop pos).take (sizeP rec (xs.drop pos))) = q5 at *
            clear hq hq4
            go_wp2_with fail
            go_at_call 91
            refine hfr.mono ?_
            rintro e w4 ⟨hg6, hm⟩
            have hg7 := (grown_of_below (row := some R) hb3).trans hg6
            cases q with
            | stop how =>
              obtain rfl := hm
              go_wp2
              go_ret3
              exact ⟨hg7, rfl⟩
            | frag t x =>
              obtain ⟨A', n', c', rfl, hx1, hx2⟩ := hm
              rw [hHH2.out] at hx2
              go_wp2
              go_ret3
              exact ⟨hg7, A', n', c', rfl, hx1, hx2⟩
end Go.Proofs.Ytonhhbebpcaaeaa
