/- The walk of the law WalReads. -/
import Derived.Test.YtonhhbebpcaaeaaWalM
import Derived.Test.YtonhhbebpcaaeaaRows
namespace Go.Proofs.Ytonhhbebpcaaeaa
open Go.RowKit

theorem RecsV.ext {w w' : World} {v : Value} {acc : List (List UInt8)} (h : RecsV w v acc) (hb : Below w.heap.size w w') : RecsV w' v acc := by
  obtain ⟨A, c, vals, h1, h2, h3, h4, h5, h6⟩ := h
  exact ⟨A, c, vals, h1, h2, h3, h4, h5.ext hb, h6.below hb⟩

set_option maxRecDepth 100000 in
set_option maxHeartbeats 2000000 in
theorem walReads_w (log n c : Nat) (A : Option Addr) (xs : List UInt8) (w : World) (h : Bsl w w.heap.size A n c xs) :
    Calls Try.prog 3 #[.slice A n c, .int .u32 (log : Nat)] w fun e w' => e = .returned (.bool true) ∧ Below w.heap.size w w' := by
  have hlen := h.len
  have hcap := h.cap
  have hbig := h.big
  have hfew := h.few
  unfold maxLen at hbig
  unfold maxB at hfew
  obtain ⟨i0, hi0, hz0, hz1, hz2⟩ := info_parts info_byte
  have ho0 : (w.alloc (.cells #[] 5)).ownsRow w.heap.size 5 1 (.slice (some ⟨w.heap.size, 0, none⟩) 0 0) 0 [] := World.ownsRow_made w #[] 0 (Nat.le_refl _) (by unfold maxLen; omega) (by simp)
  have hb0 : Below w.heap.size w (w.alloc (.cells #[] 5)) := (Below.refl _ _).alloc (Nat.le_refl _) _
  have hh := h.below hb0
  go_enter Try.func3, Try.ntmps3
  go_wp2_with (at_builtin; refine wpList_append_rd _ rfl (.tmp 16) (.tmp 17) _ rfl w.heap.size 5 i0 _ 1 1 Try.underlying22 hi0 hz0 hz1 hz2 rfl (by decide) _ _ _ rfl ho0 w.heap.size A n c (xs.map eB) rfl (by simp [hlen]) hh.rd (eB_one xs) (by unfold maxLen; omega) (by omega) (by simp) ?_; intro v1 w1 hown1 hg1 hat1; rw [Nat.zero_add, List.nil_append] at hown1; obtain ⟨A1, cap1, rfl, hA1⟩ := own_form hown1)
  have hbw1 : Below w.heap.size w w1 := hb0.grown hg1 (by simp) (fun k e => (ho0.lt k e).1)
  have hbs1 := Bsl.of_own hown1 (by unfold maxB; omega)
  have hs1 := hbw1.size
  go_at_call 9
  refine (walRead_w log n cap1 A1 xs w1 hbs1).mono ?_
  rintro e w2 ⟨l, rfl, hl, hb2⟩
  have hbw2 := hbw1.trans (hb2.mono hs1)
  have hs2 := hbw2.size
  go_wp2_with fail
  go_at_call 10
  refine (refRead_w log n c A xs w2 ((h.below hbw2).more hs2)).mono ?_
  rintro e w3 ⟨m, rfl, hm, hb3⟩
  have hbw3 := hbw2.trans (hb3.mono hs2)
  have hs3 := hbw3.size
  go_wp2_with fail
  go_at_call 11
  refine (reopen_w log n c _ A xs w3 ((h.below hbw3).more hs3)).mono ?_
  rintro e w4 ⟨p, rfl, hp0, hp1, hb4⟩
  have hbw4 := hbw3.trans (hb4.mono hs3)
  have hs4 := hbw4.size
  go_wp2_with fail
  go_at_call 12
  refine (refReopen_w log n c _ A xs w4 ((h.below hbw4).more hs4)).mono ?_
  rintro e w5 ⟨q, rfl, hq0, hq1, hb5⟩
  have hbw5 := hbw4.trans (hb5.mono hs4)
  have hs5 := hbw5.size
  go_wp2_with fail
  have hl5 := (((hl.ext hb3).ext hb4).ext hb5)
  have hm5 := ((hm.ext hb4).ext hb5)
  have hsame := same_w l m _ _ w5 hl5 hm5
  rw [show decide ((readTop xs log).1 = (readTop xs log).1) = true by simp] at hsame
  clear hl hm hl5 hm5
  go_at_call 13
  refine hsame.mono ?_
  rintro e w6 ⟨rfl, hb6⟩
  have hbw6 := hbw5.trans (hb6.mono hs5)
  have hs6 := hbw6.size
  by_cases he : reopenErr xs log = 0
  · obtain ⟨R, rfl, hR⟩ := hp0 he
    obtain ⟨R', rfl⟩ := hq0 he
    have hR6 : WrIs w6 R log _ n := Blk.ext (Blk.ext hR hb5) hb6
    have hat := at_w R log n _ w6 hR6
    clear hp0 hp1 hq0 hq1 hR hR6 he
    generalize reopenErr xs log = er at *
    generalize readTop xs log = rt at *
    go_wp2_with (first
      | (go_at_call 14; refine hat.mono ?_; rintro e w7 ⟨rfl, rfl⟩)
      | (go_at_call 15; refine (lives_w _).mono ?_; rintro e w8 ⟨rfl, hb8⟩))
    go_ret
    exact ⟨rfl, hbw6.trans (hb8.mono hs6)⟩
  · obtain rfl := hp1 he
    obtain rfl := hq1 he
    clear hp0 hp1 hq0 hq1 he
    generalize reopenErr xs log = er at *
    generalize readTop xs log = rt at *
    go_wp2_with (go_at_call 15; refine (lives_w _).mono ?_; rintro e w8 ⟨rfl, hb8⟩)
    go_ret
    exact ⟨rfl, hbw6.trans (hb8.mono hs6)⟩
end Go.Proofs.Ytonhhbebpcaaeaa
