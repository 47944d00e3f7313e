/- The law's helpers of layer 3: Plain, plain, Same. -/
import Derived.Test.YtonhhbebpcaaeaaLawP
import Derived.Test.YtonhhbebpcaaeaaDecW
import Derived.Laws.Rows
namespace Go.Proofs.Ytonhhbebpcaaeaa
open Go.RowKit

theorem plainR_ok {r : Rec} (h : r.Ok) : (plainR r).Ok := by
  unfold plainR
  split
  · exact ⟨h.f, h.k0, h.k1, h.key, Nat.zero_le _⟩
  · exact h
theorem info_rec' : (Try.prog.info? 44).map (fun i => (i.zero, i.size, i.bytes)) = some (some (.agg rZ), 4, 48) := by kernel_rfl

set_option maxHeartbeats 1000000 in
theorem refPlain_w (r : Rec) (w : World) :
    Calls Try.prog 62 #[vRec r] w fun e w' => e = .returned (vRec (plainR r)) ∧ Below w.heap.size w w' := by
  obtain ⟨f, k, key, val⟩ := r
  have hY : ∀ (cs ds : Array Value), Blk ((w.alloc (.cells cs 44)).alloc (.cells ds 44)) (w.heap.size + 1) 44 ds := fun cs ds => by
    have := Blk.new (w.alloc (.cells cs 44)) 44 ds
    rwa [show (w.alloc (.cells cs 44)).heap.size = w.heap.size + 1 by simp] at this
  have hb0 : ∀ (cs ds : Array Value), Below w.heap.size w ((w.alloc (.cells cs 44)).alloc (.cells ds 44)) := fun cs ds => ((Below.refl _ _).alloc (Nat.le_refl _) _).alloc (by simp) _
  unfold vRec plainR
  simp only
  by_cases h0 : k = 0
  · subst h0
    simp only [if_true]
    go_enter Try.func62, Try.ntmps62
    go_wp2
    exact bodyPost_ret (results_cell_row rfl _ _ (w.heap.size + 1) 44 _ (0, 0) _ rfl (hY _ _) Try.underlying44 rfl rec_size) rfl ⟨rfl, hb0 _ _⟩
  · have t0 : (k == 0) = false := by simp; omega
    rw [if_neg h0]
    go_enter Try.func62, Try.ntmps62
    go_wp2
    exact bodyPost_ret (results_cell_row rfl _ _ (w.heap.size + 1) 44 _ (0, 0) _ rfl (hY _ _) Try.underlying44 rfl rec_size) rfl ⟨rfl, hb0 _ _⟩

set_option maxHeartbeats 1000000 in
theorem batPlain_w (r : Rec) (w : World) :
    Calls Try.prog 139 #[vRec r] w fun e w' => e = .returned (vRec (plainR r)) ∧ Below w.heap.size w w' := by
  obtain ⟨f, k, key, val⟩ := r
  have hY : ∀ (cs ds : Array Value), Blk ((w.alloc (.cells cs 44)).alloc (.cells ds 44)) (w.heap.size + 1) 44 ds := fun cs ds => by
    have := Blk.new (w.alloc (.cells cs 44)) 44 ds
    rwa [show (w.alloc (.cells cs 44)).heap.size = w.heap.size + 1 by simp] at this
  have hb0 : ∀ (cs ds : Array Value), Below w.heap.size w ((w.alloc (.cells cs 44)).alloc (.cells ds 44)) := fun cs ds => ((Below.refl _ _).alloc (Nat.le_refl _) _).alloc (by simp) _
  unfold vRec plainR
  simp only
  by_cases h0 : k = 0
  · subst h0
    simp only [if_true]
    go_enter Try.func139, Try.ntmps139
    go_wp2
    exact bodyPost_ret (results_cell_row rfl _ _ (w.heap.size + 1) 44 _ (0, 0) _ rfl (hY _ _) Try.underlying44 rfl rec_size) rfl ⟨rfl, hb0 _ _⟩
  · have t0 : (k == 0) = false := by simp; omega
    rw [if_neg h0]
    go_enter Try.func139, Try.ntmps139
    go_wp2
    exact bodyPost_ret (results_cell_row rfl _ _ (w.heap.size + 1) 44 _ (0, 0) _ rfl (hY _ _) Try.underlying44 rfl rec_size) rfl ⟨rfl, hb0 _ _⟩

theorem Rsl.of_own {w : World} {base : Nat} {A : Option Addr} {n c : Nat} {rs : List Rec} (h : w.ownsRow base 44 4 (.slice A n c) n (rAll rs)) (ho : ∀ r ∈ rs, r.Ok) (hf : n ≤ 2932031007402) : Rsl w w.heap.size A n c rs := by
  have hl := h.1
  rw [rAll_len] at hl
  have hn : rs.length = n := by omega
  rcases h.2 with ⟨h1, rfl⟩ | ⟨g, cap, cur, h1, hb, hh, hnc, hcm, hcs, htake⟩
  · injection h1 with h1 h2 h3
    subst h1 h3
    have : rs = [] := List.eq_nil_of_length_eq_zero hn
    subst this
    exact ⟨rfl, Nat.le_refl _, Nat.zero_le _, by omega, .inl rfl, by simp⟩
  · injection h1 with h1 h2 h3
    subst h1 h3
    have hg : g < w.heap.size := by
      rcases Nat.lt_or_ge g w.heap.size with hlt | hge
      · exact hlt
      · rw [Array.getElem?_eq_none hge] at hh; cases hh
    refine ⟨hn, hnc, hcm, hf, .inr ⟨g, 0, rfl, hg, fun j u hu => ?_⟩, ho⟩
    have := h.cellAt j (by rw [← h.1]; exact (List.getElem?_eq_some_iff.1 hu).1)
    rw [Nat.zero_add, this]
    exact hu

set_option maxRecDepth 100000 in
set_option maxHeartbeats 2000000 in
theorem plains_w (A : Option Addr) (n c : Nat) (rs : List Rec) (w : World) (h : Rsl w w.heap.size A n c rs) :
    Calls Try.prog 23 #[.slice A n c] w fun e w' => ∃ v, e = .returned v ∧ w'.ownsRow w.heap.size 44 4 v n (rAll (rs.map plainR)) ∧ Below w.heap.size w w' := by
  obtain ⟨i0, hi0, hz0, hz1, hz2⟩ := info_parts info_rec'
  have hl := h.len
  have hcap := h.cap
  have hbig := h.big
  have hfew := h.few
  unfold maxLen at hbig
  have ho0 : (w.alloc (.cells #[] 44)).ownsRow w.heap.size 44 4 (.slice (some ⟨w.heap.size, 0, none⟩) 0 0) 0 [] := World.ownsRow_made w #[] 0 (Nat.le_refl _) (by unfold maxLen; omega) (by simp)
  have hb0 : Below w.heap.size w (w.alloc (.cells #[] 44)) := (Below.refl _ _).alloc (Nat.le_refl _) _
  go_enter Try.func23, Try.ntmps23
  go_wp2
  go_loopw [3, 4] (fun v i wr => ∃ (k : Nat), k ≤ n ∧ i = .int .i64 k ∧ Below w.heap.size w wr ∧ wr.ownsRow w.heap.size 44 4 v k (rAll ((rs.take k).map plainR))) (fun _ i _ => n - (intOf i).toNat)
  case atStart => exact ⟨0, by omega, rfl, hb0, by simpa [rAll] using ho0⟩
  case round =>
    obtain ⟨k, hk, rfl, hbw, how⟩ := hrel
    obtain ⟨A3, c3, rfl, _⟩ := own_form how
    have hsz := hbw.size
    by_cases hlt : k < n
    · obtain ⟨g, o, r, rfl, hg, hr, hok, c0, c1, c2, c3⟩ := (h.below hbw).at_ hlt
      have hst : Hid (rAll ((rs.take (k + 1)).map plainR) = rAll ((rs.take k).map plainR) ++ rCells (plainR r)) := by
        unfold Hid; rw [take_snoc hr]; simp [rAll]
      have hone : ∀ u ∈ rCells (plainR r), u.oneCell' = true := by simp [rCells, Value.oneCell']
      have hpl : ∀ w : World, Calls Try.prog 62 #[vRec r] w fun e w' => e = .returned (.agg #[.int .u32 ((plainR r).f : Nat), .int .i64 (plainR r).kind, .string (plainR r).key, .string (plainR r).val]) ∧ Below w.heap.size w w' := fun w => refPlain_w r w
      go_wp2_with (first
        | (go_at_call 62; refine (hpl _).mono ?_; rintro e w2 ⟨rfl, hb2⟩; have hs2 : w.heap.size ≤ w2.heap.size := by (have := hb2.size; omega))
        | (at_builtin; refine wpList_append_rd _ rfl (.tmp 12) (.tmp 18) _ rfl w.heap.size 44 i0 _ 4 48 Try.underlying39 hi0 hz0 hz1 hz2 rfl (by decide) _ _ _ rfl ((own_below' how hb2).alloc _) (w2.heap.size + 1) (some ⟨w2.heap.size, 0, none⟩) 1 1 (rCells (plainR r)) rfl rfl (Rd.lit w2 _ 44 _ rfl |>.more (by simp)) hone (by unfold maxLen; omega) (by omega) (by simp; omega) ?_; intro v4 w4 hown4 hg4 _))
      have hbw4 := below_app' ((hbw.trans (hb2.mono hsz)).alloc hs2 _) ((own_below' how hb2).alloc _) (by simp; omega) hg4 rfl
      go_roundw
      case rel => exact ⟨k + 1, by omega, by go_num, hbw4, by rw [hst.out]; exact hown4⟩
      case measure => simp [intOf]; omega
    · obtain rfl : k = n := by omega
      go_wp2
      go_ret
      exact ⟨_, rfl, by rw [List.take_of_length_le (by omega)] at how; exact how, hbw⟩
set_option maxRecDepth 100000 in
set_option maxHeartbeats 2000000 in
theorem same3_w (A A' : Option Addr) (n c c' : Nat) (rs : List Rec) (w : World) (h : Rsl w w.heap.size A n c rs) (h' : Rsl w w.heap.size A' n c' rs) :
    Calls Try.prog 22 #[.slice A n c, .slice A' n c'] w fun e w' => e = .returned (.bool true) ∧ Below w.heap.size w w' := by
  have hcap := h.cap
  have hcap' := h'.cap
  have hbig := h.big
  have hbig' := h'.big
  unfold maxLen at hbig hbig'
  have t0 : ((n : Int) != n) = false := by simp
  go_enter Try.func22, Try.ntmps22
  go_wp2
  clear t0
  go_loopw [5] (fun i wr => ∃ (k : Nat), k ≤ n ∧ i = .int .i64 k ∧ Below w.heap.size w wr) (fun i _ => n - (intOf i).toNat)
  case atStart => exact ⟨0, by omega, rfl, Below.refl _ _⟩
  case round =>
    obtain ⟨k, hk, rfl, hbw⟩ := hrel
    by_cases hlt : k < n
    · obtain ⟨g, o, r, rfl, hg, hr, hok, c0, c1, c2, c3⟩ := (h.below hbw).at_ hlt
      obtain ⟨g', o', r', rfl, hg', hr', hok', d0, d1, d2, d3⟩ := (h'.below hbw).at_ hlt
      obtain rfl : r = r' := by rw [hr] at hr'; injection hr'
      go_wp2_with fail
      go_region
      go_wp2
      go_roundw
      case rel => exact ⟨k + 1, by omega, by go_num, below_drew hbw⟩
      case measure => simp [intOf]; omega
    · obtain rfl : k = n := by omega
      go_wp2
      go_ret
      exact ⟨rfl, hbw⟩
end Go.Proofs.Ytonhhbebpcaaeaa
