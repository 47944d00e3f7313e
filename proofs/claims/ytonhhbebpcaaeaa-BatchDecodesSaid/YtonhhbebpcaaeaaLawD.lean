/- The walk of the law BatchEncodes. -/
import Derived.Test.YtonhhbebpcaaeaaLawC
import Derived.Deep.RegionHeld3
namespace Go.Proofs.Ytonhhbebpcaaeaa
open Go.RowKit

theorem conv_bsl {w : World} {A : Option Addr} {n c : Nat} {xs : List UInt8} (h : Bsl w w.heap.size A n c xs) : (convert 22 9 (.slice A n c)).run Try.prog w = .ok (.string (strOf xs)) w :=
  run_conv_str Try.underlying22 Try.underlying5 Try.underlying9 h
theorem encB_few {seq : Nat} {rs : List Rec} (h : encErr seq rs = 0) : (encB seq rs).length ≤ maxB := by
  obtain ⟨_, _, _, h4⟩ := encErr_zero h
  rw [encB_len]
  unfold maxB
  omega

set_option maxRecDepth 100000 in
set_option maxHeartbeats 4000000 in
theorem batchEncodes_w (seq : Nat) (hs : seq < 18446744073709551616) (A : Option Addr) (n c : Nat) (rs : List Rec) (w : World) (h : Rsl w w.heap.size A n c rs) :
    Calls Try.prog 4 #[.int .u64 seq, .slice A n c] w fun e w' => e = .returned (.bool true) ∧ Below w.heap.size w w' := by
  obtain ⟨i0, hi0, hz0, hz1, hz2⟩ := info_parts info_rec'
  have hl := h.len
  have hcap := h.cap
  have hbig := h.big
  have hfew := h.few
  unfold maxLen at hbig
  have ho0 : (w.alloc (.cells #[] 44)).ownsRow w.heap.size 44 4 (.slice (some ⟨w.heap.size, 0, none⟩) 0 0) 0 [] := World.ownsRow_made w #[] 0 (Nat.le_refl _) (by unfold maxLen; omega) (by simp)
  have hb0 : Below w.heap.size w (w.alloc (.cells #[] 44)) := (Below.refl _ _).alloc (Nat.le_refl _) _
  have hh := h.below hb0
  have hlen := rAll_len rs
  have hone : ∀ u ∈ rAll rs, u.oneCell' = true := by
    intro u hu
    unfold rAll at hu
    obtain ⟨r, _, hu⟩ := List.mem_flatMap.1 hu
    unfold rCells at hu
    simp at hu
    rcases hu with rfl | rfl | rfl | rfl <;> rfl
  go_enter Try.func4, Try.ntmps4
  go_wp2_with (at_builtin; refine wpList_append_rd _ rfl (.tmp 15) (.tmp 16) _ rfl w.heap.size 44 i0 _ 4 48 Try.underlying39 hi0 hz0 hz1 hz2 rfl (by decide) _ _ _ rfl ho0 w.heap.size A n c (rAll rs) rfl (by omega) hh.rd hone (by unfold maxLen; omega) (by omega) (by simp) ?_; intro v1 w1 hown1 hg1 _; rw [Nat.zero_add, List.nil_append] at hown1; obtain ⟨A1, c1, rfl, -⟩ := own_form hown1)
  have hbw1 := below_app' hb0 ho0 (by simp) hg1 rfl
  have hR1 := Rsl.of_own hown1 h.ok hfew
  have henc := encode_w seq hs A1 n c1 rs w1 hR1
  clear hown1 hg1 ho0 hb0 hh
  have hs1 := hbw1.size
  go_at_call 16
  refine henc.mono ?_
  rintro e w2 ⟨v2, rfl, ho2, hn2, hb2⟩
  clear henc
  have hbw2 := hbw1.trans (hb2.mono hs1)
  have hs2 := hbw2.size
  have hrenc := refEncode_w seq hs A n c rs w2 ((h.below hbw2).more hs2)
  go_wp2_with fail
  go_at_call 17
  refine hrenc.mono ?_
  rintro e w3 ⟨v3, rfl, ho3, hn3, hb3⟩
  clear hrenc
  have hbw3 := hbw2.trans (hb3.mono hs2)
  have hs3 := hbw3.size
  have hv : ∃ bs A2 c2 A3 c3, v2 = .slice A2 (bs : List UInt8).length c2 ∧ v3 = .slice A3 bs.length c3 ∧ Bsl w3 w3.heap.size A2 bs.length c2 bs ∧ Bsl w3 w3.heap.size A3 bs.length c3 bs ∧ (encErr seq rs = 0 → bs = encB seq rs) := by
    by_cases he : encErr seq rs = 0
    · have g2 := ho2 he
      have g3 := ho3 he
      obtain ⟨A2, c2, rfl, -⟩ := own_form g2
      obtain ⟨A3, c3, rfl, -⟩ := own_form g3
      exact ⟨_, A2, c2, A3, c3, rfl, rfl, (Bsl.of_own g2 (encB_few he)).ext hb3, Bsl.of_own g3 (encB_few he), fun _ => rfl⟩
    · exact ⟨[], none, 0, none, 0, hn2 he, hn3 he, Bsl.empty _ _ _ _ (Nat.zero_le _), Bsl.empty _ _ _ _ (Nat.zero_le _), fun h0 => absurd h0 he⟩
  obtain ⟨bs, A2, c2, A3, c3, rfl, rfl, hB2, hB3, hbe⟩ := hv
  have u2 := conv_bsl hB2
  have u3 := conv_bsl hB3
  have hdec : Hid (encErr seq rs = 0 → decode bs = .ok (seq, rs.map plainR)) := fun h0 => by rw [hbe h0]; exact decode_enc seq rs h.ok h0
  clear ho2 ho3 hn2 hn3 hbe hB3 hbw1 hbw2 hs1 hs2 hb2 hb3 hR1
  generalize encErr seq rs = er at *
  go_wp2
  clear u2 u3
  have hw3 : Below w3.heap.size w3 w3 := Below.refl _ _
  go_loopw [9] (fun i wr => ∃ (k : Nat), k ≤ n ∧ i = .int .i64 k ∧ Below w3.heap.size w3 wr) (fun i _ => n - (intOf i).toNat)
  case atStart => exact ⟨0, by omega, rfl, hw3⟩
  case round =>
    clear hw3
    obtain ⟨k, hk, rfl, hwr⟩ := hrel
    have hbwr := hbw3.trans (hwr.mono hs3)
    have hsr := hbwr.size
    by_cases hlt : k < n
    · obtain ⟨g, o, r, rfl, hg, hr, hok, d0, d1, d2, d3⟩ := (h.below hbwr).at_ hlt
      have hchk := fun w => check_w r hok w
      have hchk2 := fun w => refCheck_w r hok w
      generalize checkOf r = cc at *
      go_wp2_with fail
      have hbwd := below_drew hbwr
      have hwrd := below_drew hwr
      go_region_held3 (fun w' => w'.cell? ⟨g, o + k * 4, none⟩ = some (.int .u32 r.f) ∧ w'.cell? ⟨g, o + k * 4 + 1, none⟩ = some (.int .i64 r.kind) ∧ w'.cell? ⟨g, o + k * 4 + 2, none⟩ = some (.string r.key) ∧ w'.cell? ⟨g, o + k * 4 + 3, none⟩ = some (.string r.val))
        ((first | exact ⟨d0, d1, d2, d3⟩ | exact ⟨e0, e1, e2, e3⟩ | exact ⟨f0, f1, f2, f3⟩))
        ((first
          | (have _h := hb4
             first
               | (go_at_call 18
                  refine (hchk _).mono ?_
                  rintro e w5 ⟨rfl, hb5⟩
                  have f0 := (hb5.cell (p := ⟨g, o + k * 4, none⟩) (by simp only; omega)).trans e0
                  have f1 := (hb5.cell (p := ⟨g, o + k * 4 + 1, none⟩) (by simp only; omega)).trans e1
                  have f2 := (hb5.cell (p := ⟨g, o + k * 4 + 2, none⟩) (by simp only; omega)).trans e2
                  have f3 := (hb5.cell (p := ⟨g, o + k * 4 + 3, none⟩) (by simp only; omega)).trans e3)
               | (go_at_call 19
                  refine (hchk2 _).mono ?_
                  rintro e w5 ⟨rfl, hb5⟩
                  have f0 := (hb5.cell (p := ⟨g, o + k * 4, none⟩) (by simp only; omega)).trans e0
                  have f1 := (hb5.cell (p := ⟨g, o + k * 4 + 1, none⟩) (by simp only; omega)).trans e1
                  have f2 := (hb5.cell (p := ⟨g, o + k * 4 + 2, none⟩) (by simp only; omega)).trans e2
                  have f3 := (hb5.cell (p := ⟨g, o + k * 4 + 3, none⟩) (by simp only; omega)).trans e3))
          | (go_at_call 18
             refine (hchk _).mono ?_
             rintro e w4 ⟨rfl, hb4⟩
             have hg4 : g < w4.heap.size := by have := hb4.size; simp only [World.size_drew] at this; omega
             have e0 := (hb4.cell (p := ⟨g, o + k * 4, none⟩) (by simp only [World.size_drew]; omega)).trans d0
             have e1 := (hb4.cell (p := ⟨g, o + k * 4 + 1, none⟩) (by simp only [World.size_drew]; omega)).trans d1
             have e2 := (hb4.cell (p := ⟨g, o + k * 4 + 2, none⟩) (by simp only [World.size_drew]; omega)).trans d2
             have e3 := (hb4.cell (p := ⟨g, o + k * 4 + 3, none⟩) (by simp only [World.size_drew]; omega)).trans d3)
          | (go_at_call 19
             refine (hchk2 _).mono ?_
             rintro e w4 ⟨rfl, hb4⟩
             have hg4 : g < w4.heap.size := by have := hb4.size; simp only [World.size_drew] at this; omega
             have e0 := (hb4.cell (p := ⟨g, o + k * 4, none⟩) (by simp only [World.size_drew]; omega)).trans d0
             have e1 := (hb4.cell (p := ⟨g, o + k * 4 + 1, none⟩) (by simp only [World.size_drew]; omega)).trans d1
             have e2 := (hb4.cell (p := ⟨g, o + k * 4 + 2, none⟩) (by simp only [World.size_drew]; omega)).trans d2
             have e3 := (hb4.cell (p := ⟨g, o + k * 4 + 3, none⟩) (by simp only [World.size_drew]; omega)).trans d3)))
      all_goals
        have hw5 := (hwrd.trans (hb4.mono hwrd.size)).trans (hb5.mono (by have := hb4.size; have := hwrd.size; omega))
        clear e0 e1 e2 e3 f0 f1 f2 f3 d0 d1 d2 d3
        go_wp2
        go_roundw
        case rel => exact ⟨k + 1, by omega, by go_num, hw5⟩
        case measure => simp [intOf]; omega
    · obtain rfl : k = n := by omega
      by_cases he : er = 0
      · subst he
        have hdc := hide (hdec.out rfl)
        have hBw := hB2.ext hwr
        have hplr := plains_w A k c rs
        have hdw := decode_w A2 bs.length c2 bs wr hBw
        unfold DecPost at hdw
        rw [hdc.out] at hdw
        simp only at hdw
        clear hdc hdec
        go_wp2_with fail
        go_at_call 21
        refine hdw.mono ?_
        rintro e w6 ⟨hb6, v6, rfl, ho6⟩
        clear hdw
        rw [List.length_map] at ho6
        have hok6 : ∀ r ∈ rs.map plainR, r.Ok := by
          intro r hr
          obtain ⟨r0, h0, rfl⟩ := List.mem_map.1 hr
          exact plainR_ok (h.ok r0 h0)
        obtain ⟨A6, c6, rfl, -⟩ := own_form ho6
        have hR6 := Rsl.of_own (n := k) (rs := rs.map plainR) (A := A6) (c := c6) (by rw [hl] at ho6; exact ho6) hok6 hfew
        rw [hl]
        have hbw6 := hbwr.trans (hb6.mono hsr)
        have hs6 := hbw6.size
        go_wp2_with (first
          | (go_at_call 23; refine (hplr _ ((h.below hbw6).more hs6)).mono ?_; rintro e w7 ⟨v7, rfl, ho7, hb7⟩; obtain ⟨A7, c7, rfl, -⟩ := own_form ho7; have hR7 := Rsl.of_own ho7 hok6 hfew; have hbw7 := hbw6.trans (hb7.mono hs6); have hs7 := hbw7.size)
          | (go_at_call 22; refine (same3_w A6 A7 k c6 c7 _ _ (hR6.ext hb7) hR7).mono ?_; rintro e w8 ⟨rfl, hb8⟩; have hbw8 := hbw7.trans (hb8.mono hs7); have hs8 := hbw8.size)
          | (go_at_call 20; refine (lives3_w _).mono ?_; rintro e w9 ⟨rfl, hb9⟩))
        go_ret
        exact ⟨rfl, hbw8.trans (hb9.mono hs8)⟩
      · have t1 : ((er : Int) != 0) = true := by simp; omega
        clear hdec he
        go_wp2_with (go_at_call 20; refine (lives3_w _).mono ?_; rintro e w9 ⟨rfl, hb9⟩)
        go_ret
        exact ⟨rfl, hbwr.trans (hb9.mono hsr)⟩
end Go.Proofs.Ytonhhbebpcaaeaa
