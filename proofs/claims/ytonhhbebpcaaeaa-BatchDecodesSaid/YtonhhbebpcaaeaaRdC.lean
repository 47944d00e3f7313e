/- The reference's Decode. -/
import Derived.Test.YtonhhbebpcaaeaaRdB
import Derived.Test.YtonhhbebpcaaeaaDecW
namespace Go.Proofs.Ytonhhbebpcaaeaa
open Go.RowKit

theorem refRecord_w (R : Nat) (xs : List UInt8) (w : World) (h : Rrd w R xs 0) :
    Calls Try.prog 64 #[.pointer (some ⟨R, 0, none⟩)] w (RRecPost w R xs) := by
  cases xs with
  | nil => exact refRecord_empty R w h
  | cons x ys => exact refRecord_some R x ys w h
theorem refDecode_long (A : Option Addr) (n c : Nat) (xs : List UInt8) (w : World) (h : Bsl w w.heap.size A n c xs) (hn : 4194304 < n) :
    Calls Try.prog 24 #[.slice A n c] w (DecPost w xs) := by
  have hl := h.len
  have hd : decide ((n : Int) > 4194304) = true := by simp; omega
  have hpost : Hid (decode xs = .error 2) := by unfold Hid decode; rw [if_pos (by omega)]
  go_enter Try.func24, Try.ntmps24
  go_wp2
  go_ret3
  refine ⟨Below.refl _ _, ?_⟩
  rw [hpost.out]
  rfl
theorem refDecode_short (A : Option Addr) (n c : Nat) (xs : List UInt8) (w : World) (h : Bsl w w.heap.size A n c xs) (hn : n < 8) :
    Calls Try.prog 24 #[.slice A n c] w (DecPost w xs) := by
  have hl := h.len
  have hd : decide ((n : Int) > 4194304) = false := by simp; omega
  have hpost : Hid (decode xs = .error 4) := by unfold Hid decode; rw [if_neg (by omega), if_pos (by omega)]
  have hr := fun w => refReadFixed_short A n c 8 w hn
  go_enter Try.func24, Try.ntmps24
  go_wp2_with (go_at_call 63; refine (hr _).mono ?_; rintro e w1 ⟨rfl, hw1⟩; subst hw1)
  go_ret3
  refine ⟨Below.refl _ _, ?_⟩
  rw [hpost.out]
  rfl
theorem refDecode_seq (A : Option Addr) (n c : Nat) (xs : List UInt8) (w : World) (h : Bsl w w.heap.size A n c xs) (hn : 8 ≤ n) (hn2 : n ≤ 4194304) (hs : 72057594037927935 < leNat (xs.take 8)) :
    Calls Try.prog 24 #[.slice A n c] w (DecPost w xs) := by
  have hl := h.len
  have hd : decide ((n : Int) > 4194304) = false := by simp; omega
  have hpost : Hid (decode xs = .error 3) := by unfold Hid decode; rw [if_neg (by omega), if_neg (by omega), if_pos hs]
  have hr := refReadFixed_w A n c 8 xs w h (by omega) (by omega)
  generalize leNat (xs.take 8) = seq at *
  have hd2 : decide ((seq : Int) > 72057594037927935) = true := by simp; omega
  go_enter Try.func24, Try.ntmps24
  go_wp2_with (go_at_call 63; refine hr.mono ?_; rintro e w1 ⟨rfl, hw1⟩; subst hw1)
  go_ret3
  refine ⟨Below.refl _ _, ?_⟩
  rw [hpost.out]
  rfl
set_option maxRecDepth 100000 in
set_option maxHeartbeats 1000000 in
theorem refDecode_twelve (A : Option Addr) (n c : Nat) (xs : List UInt8) (w : World) (h : Bsl w w.heap.size A n c xs) (hn : 8 ≤ n) (hn2 : n < 12) (hs : leNat (xs.take 8) ≤ 72057594037927935) :
    Calls Try.prog 24 #[.slice A n c] w (DecPost w xs) := by
  have hl := h.len
  have hcap := h.cap
  have hbig := h.big
  unfold maxLen at hbig
  have hd : decide ((n : Int) > 4194304) = false := by simp; omega
  have hpost : Hid (decode xs = .error 4) := by unfold Hid decode; rw [if_neg (by omega), if_neg (by omega), if_neg (by omega), if_pos (by omega)]
  have hr := refReadFixed_w A n c 8 xs w h (by omega) (by omega)
  have hr2 := fun A' n' c' w (hn : n' < 4) => refReadFixed_short A' n' c' 4 w hn
  obtain ⟨g, o, rfl, hg, hcell⟩ := h.at_ (k := 0) (by omega)
  clear hcell
  generalize leNat (xs.take 8) = seq at *
  have hd2 : decide ((seq : Int) > 72057594037927935) = false := by simp; omega
  go_enter Try.func24, Try.ntmps24
  go_wp2_with fail
  go_at_call 63
  refine hr.mono ?_
  rintro e w1 ⟨rfl, hw1⟩
  subst hw1
  go_wp2_with fail
  all_goals
    go_at_call 63
    refine (hr2 _ _ _ _ (by omega)).mono ?_
    rintro e w2 ⟨rfl, hw2⟩
    subst hw2
    go_wp2
    go_ret3
    refine ⟨Below.refl _ _, ?_⟩
    rw [hpost.out]
    rfl
set_option maxRecDepth 100000 in
set_option maxHeartbeats 1000000 in
theorem refDecode_count (A : Option Addr) (n c : Nat) (xs : List UInt8) (w : World) (h : Bsl w w.heap.size A n c xs) (hn : 12 ≤ n) (hn2 : n ≤ 4194304) (hs : leNat (xs.take 8) ≤ 72057594037927935) (hm : 4096 < leNat ((xs.drop 8).take 4) ∨ fitsOf (leNat (xs.take 8)) (leNat ((xs.drop 8).take 4)) = false) :
    Calls Try.prog 24 #[.slice A n c] w (DecPost w xs) := by
  have hl := h.len
  have hcap := h.cap
  have hbig := h.big
  unfold maxLen at hbig
  have hd : decide ((n : Int) > 4194304) = false := by simp; omega
  have hpost : Hid (decode xs = .error 3) := by unfold Hid decode; rw [if_neg (by omega), if_neg (by omega), if_neg (by omega), if_neg (by omega), if_pos hm]
  have hr := refReadFixed_w A n c 8 xs w h (by omega) (by omega)
  obtain ⟨g, o, rfl, hg, hcell⟩ := h.at_ (k := 0) (by omega)
  clear hcell
  have h8 := h.cut (k := 8) (by omega)
  have hr2 := refReadFixed_w _ _ _ 4 _ w h8 (by omega) (by omega)
  have hft := fun w (hm : leNat ((xs.drop 8).take 4) ≤ 4096) => numbered_w (leNat (xs.take 8)) (leNat ((xs.drop 8).take 4)) (by omega) (by unfold maxB; omega) w
  have hml := leNat_lt ((xs.drop 8).take 4)
  rw [List.length_take, List.length_drop, Nat.min_eq_left (by omega)] at hml
  generalize leNat (xs.take 8) = seq at *
  generalize leNat ((xs.drop 8).take 4) = m at *
  have hd2 : decide ((seq : Int) > 72057594037927935) = false := by simp; omega
  have hc8 : ¬ c = 8 := by omega
  by_cases hm4 : 4096 < m
  · have hd3 : decide ((m : Int) > 4096) = true := by simp; omega
    clear hft hm
    go_enter Try.func24, Try.ntmps24
    go_wp2_with fail
    go_at_call 63
    refine hr.mono ?_
    rintro e w1 ⟨rfl, hw1⟩
    subst hw1
    go_wp2_with fail
    go_at_call 63
    refine hr2.mono ?_
    rintro e w2 ⟨rfl, hw2⟩
    subst hw2
    go_wp2
    go_ret3
    refine ⟨Below.refl _ _, ?_⟩
    rw [hpost.out]
    rfl
  · have hd3 : decide ((m : Int) > 4096) = false := by simp; omega
    have hff : fitsOf seq m = false := hm.resolve_left hm4
    have hft2 := fun w => hft w (by omega)
    rw [hff] at hft2
    clear hft hm hff
    go_enter Try.func24, Try.ntmps24
    go_wp2_with fail
    go_at_call 63
    refine hr.mono ?_
    rintro e w1 ⟨rfl, hw1⟩
    subst hw1
    go_wp2_with fail
    go_at_call 63
    refine hr2.mono ?_
    rintro e w2 ⟨rfl, hw2⟩
    subst hw2
    go_wp2_with (go_at_call 50; refine (hft2 _).mono ?_; rintro e w3 ⟨rfl, hw3⟩; subst hw3)
    go_ret3
    refine ⟨Below.refl _ _, ?_⟩
    rw [hpost.out]
    rfl

set_option maxRecDepth 100000 in
set_option maxHeartbeats 2000000 in
theorem refDecode_main (A : Option Addr) (n c : Nat) (xs : List UInt8) (w : World) (h : Bsl w w.heap.size A n c xs) (hn : 12 ≤ n) (hn2 : n ≤ 4194304) (hs : leNat (xs.take 8) ≤ 72057594037927935) (hm : leNat ((xs.drop 8).take 4) ≤ 4096) (hff : fitsOf (leNat (xs.take 8)) (leNat ((xs.drop 8).take 4)) = true) :
    Calls Try.prog 24 #[.slice A n c] w (DecPost w xs) := by
  obtain ⟨i0, hi0, hz0, hz1, hz2⟩ := info_parts info_rec
  have hl := h.len
  have hcap := h.cap
  have hbig := h.big
  unfold maxLen at hbig
  have hd : decide ((n : Int) > 4194304) = false := by simp; omega
  have hpost : Hid (decode xs = match rdAll (leNat ((xs.drop 8).take 4)) (xs.drop 12) with
    | .error e => .error e
    | .ok (rs, ys) => if 0 < ys.length then .error 5 else .ok (leNat (xs.take 8), rs)) := by
    unfold Hid decode; rw [if_neg (by omega), if_neg (by omega), if_neg (by omega), if_neg (by omega), if_neg (by rw [hff]; simp; omega)]
    rfl
  have hr := refReadFixed_w A n c 8 xs w h (by omega) (by omega)
  obtain ⟨g, o, rfl, hg, hcell⟩ := h.at_ (k := 0) (by omega)
  clear hcell
  have h8 := h.cut (k := 8) (by omega)
  have hr2 := refReadFixed_w _ _ _ 4 _ w h8 (by omega) (by omega)
  have hft := fun w => numbered_w (leNat (xs.take 8)) (leNat ((xs.drop 8).take 4)) (by omega) (by unfold maxB; omega) w
  rw [hff] at hft
  have h12 := h.cut (k := 12) (by omega)
  have h12' := fun hk => h.cut0 (k := 12) hk (by omega)
  clear hff h8
  have hstart : Hid (∀ A' n' c', Bsl w w.heap.size A' n' c' (xs.drop 12) → Rrd ((w.alloc (.cells #[.slice A' n' c', .int .i64 0] 120)).alloc (.cells #[] 44)) w.heap.size (xs.drop 12) 0 ∧ ((w.alloc (.cells #[.slice A' n' c', .int .i64 0] 120)).alloc (.cells #[] 44)).ownsRow (w.heap.size + 1) 44 4 (.slice (some ⟨w.heap.size + 1, 0, none⟩) 0 0) 0 [] ∧ Below w.heap.size w ((w.alloc (.cells #[.slice A' n' c', .int .i64 0] 120)).alloc (.cells #[] 44))) := by
    intro A' n' c' hb'
    have h1 := Blk.new w 120 #[.slice A' n' c', .int .i64 ((0 : Nat) : Int)]
    have h2 : Rrd (w.alloc (.cells #[.slice A' n' c', .int .i64 ((0 : Nat) : Int)] 120)) w.heap.size (xs.drop 12) 0 := ⟨A', n', c', h1, hb'.below ((Below.refl _ _).alloc (Nat.le_refl _) _)⟩
    have h3 := World.ownsRow_made (w.alloc (.cells #[.slice A' n' c', .int .i64 0] 120)) (base := w.heap.size + 1) (e := 44) (size := 4) #[] 0 (by simp) (by unfold maxLen; omega) (by simp)
    rw [World.size_alloc] at h3
    exact ⟨h2.alloc _, h3, ((Below.refl _ _).alloc (Nat.le_refl _) _).alloc (by simp) _⟩
  generalize leNat (xs.take 8) = seq at *
  generalize leNat ((xs.drop 8).take 4) = m at *
  have hd2 : decide ((seq : Int) > 72057594037927935) = false := by simp; omega
  have hc8 : ¬ c = 8 := by omega
  have hd3 : decide ((m : Int) > 4096) = false := by simp; omega
  have hH12 : Hid (c = 12 → Bsl w w.heap.size (some ⟨g, o, none⟩) (n - 12) 0 (xs.drop 12)) := h12'
  have hH12b : Hid (Bsl w w.heap.size (some ⟨g, o + 12, none⟩) (n - 12) (c - 12) (xs.drop 12)) := h12
  clear h12 h12'
  go_enter Try.func24, Try.ntmps24
  go_wp2_with fail
  go_at_call 63
  refine hr.mono ?_
  rintro e w1 ⟨rfl, hw1⟩
  subst hw1
  go_wp2_with fail
  go_at_call 63
  refine hr2.mono ?_
  rintro e w2 ⟨rfl, hw2⟩
  subst hw2
  clear hr hr2
  go_wp2_with (go_at_call 50; refine (hft _).mono ?_; rintro e w3 ⟨rfl, hw3⟩; subst hw3)
  all_goals
    have hstart2 : Hid (∃ A' n' c', Bsl w3 w3.heap.size A' n' c' (xs.drop 12)) := by
      first
        | exact ⟨_, _, _, hH12.out (by assumption)⟩
        | exact ⟨_, _, _, hH12b.out⟩
    first
      | (have hb12 := hH12.out (by assumption); have hs3 := hstart.out _ _ _ hb12)
      | (have hb12 := hH12b.out; have hs3 := hstart.out _ _ _ hb12)
    obtain ⟨hR0, ho0, hb0⟩ := hs3
    clear hb12 hstart hH12 hH12b hstart2
    go_loopw [9, 10, 11] (fun vl i _ wr => ∃ (k : Nat) (acc : List Rec) (ys : List UInt8), k ≤ m ∧ i = .int .i64 k ∧ Hid (acc.length = k) ∧ Rrd wr w3.heap.size ys 0 ∧ wr.ownsRow (w3.heap.size + 1) 44 4 vl k (rAll acc) ∧ Below w3.heap.size w3 wr ∧ Hid (rdAll m (xs.drop 12) = prep acc (rdAll (m - k) ys))) (fun _ i _ _ => m - (intOf i).toNat)
    case atStart => exact ⟨0, [], xs.drop 12, by omega, rfl, hide rfl, hR0, ho0, hb0, by unfold Hid; rw [prep_nil]; rfl⟩
    case round =>
      obtain ⟨k, acc, ys, hk, rfl, hlen, hR, how, hbw, hprep⟩ := hrel
      clear hR0 ho0 hb0
      obtain ⟨A8, c8, rfl, hform⟩ := own_form how
      have hsw := hbw.size
      have hRl := hR.lt
      by_cases hlt : k < m
      · obtain ⟨j, hj⟩ : ∃ j, m - k = j + 1 := ⟨m - k - 1, by omega⟩
        rw [hj] at hprep
        go_wp2_with fail
        go_at_call 64
        refine (refRecord_w w3.heap.size ys _ hR).mono ?_
        rintro e w5 ⟨hg5, r, zs, er, he, hR5, hrel⟩
        unfold vRec at he
        subst he
        have how5 := how.kept hg5 (.inr fun e => by
          rcases hform with ⟨rfl, _⟩ | ⟨g1, rfl, h1, h2⟩
          · simp [Value.ownBlock] at e
          · rw [h2] at e; injection e with e; omega)
        have hbw5 : Below w3.heap.size w3 w5 := hbw.trans (below_of_grown hg5 (Nat.le_refl _) hsw)
        have hs5 := hg5.size
        have hR6 := hR5.alloc (.cells #[.int .u32 (r.f : Nat), .int .i64 r.kind, .string r.key, .string r.val] 44)
        have hX6 := Blk.new w5 44 #[.int .u32 (r.f : Nat), .int .i64 r.kind, .string r.key, .string r.val]
        have how6 := how5.alloc (.cells #[.int .u32 (r.f : Nat), .int .i64 r.kind, .string r.key, .string r.val] 44)
        have hbw6 := hbw5.alloc (by omega) (.cells #[.int .u32 (r.f : Nat), .int .i64 r.kind, .string r.key, .string r.val] 44)
        obtain ⟨A5, n5, c5, q0, q1, qz0, qz1, -⟩ := hR5.cells
        have hRl5 := hR5.lt
        unfold RecRel at hrel
        cases hq : rdRec ys with
        | error er' =>
          rw [hq] at hrel
          obtain ⟨rfl, hne⟩ := hrel
          have hpr : Hid (decode xs = .error er) := by
            unfold Hid
            rw [hpost.out, hprep.out, prep_bad acc j ys er hq]
          have d1 : ((er : Int) != 0) = true := by simp; omega
          clear hprep hpost hne
          go_wp2_with fail
          go_quiet (fail)
          go_wp2
          go_ret3
          refine ⟨below_drewN hbw6 _, ?_⟩
          rw [hpr.out]
          rfl
        | ok p =>
          obtain ⟨r', zs'⟩ := p
          rw [hq] at hrel
          obtain ⟨rfl, rfl, rfl⟩ := hrel
          have hprep2 : Hid (rdAll m (xs.drop 12) = prep (acc ++ [r]) (rdAll (m - (k + 1)) zs)) := by
            unfold Hid
            rw [hprep.out, prep_step acc j ys zs r hq, show m - (k + 1) = j by omega]
          have hone : ∀ u ∈ rCells r, u.oneCell' = true := by simp [rCells, Value.oneCell']
          have hRd2 := (Rd.lit (w5.alloc (.cells #[.int .u32 (r.f : Nat), .int .i64 r.kind, .string r.key, .string r.val] 44)) #[.int .u32 (r.f : Nat), .int .i64 r.kind, .string r.key, .string r.val] 44 (rCells r) rfl)
          rw [World.size_alloc, World.size_alloc] at hRd2
          have how7 := how6.alloc (.cells #[.int .u32 (r.f : Nat), .int .i64 r.kind, .string r.key, .string r.val] 44)
          have hR7 := hR6.alloc (.cells #[.int .u32 (r.f : Nat), .int .i64 r.kind, .string r.key, .string r.val] 44)
          have hbw7 := hbw6.alloc (by simp; omega) (.cells #[.int .u32 (r.f : Nat), .int .i64 r.kind, .string r.key, .string r.val] 44)
          clear hprep hpost
          go_wp2_with (at_builtin; refine wpList_append_rd _ rfl (.tmp 65) (.tmp 67) _ rfl (w3.heap.size + 1) 44 i0 _ 4 48 Try.underlying39 hi0 hz0 hz1 hz2 rfl (by decide) _ _ _ rfl how7 _ (some ⟨w5.heap.size + 1, 0, none⟩) 1 1 (rCells r) rfl rfl hRd2 hone (by unfold maxLen; omega) (by omega) (by simp; omega) ?_; intro vf wf hownf hgf _)
          obtain ⟨Af, cf, rfl, _⟩ := own_form hownf
          rw [← rAll_snoc] at hownf
          have hbwf : Below w3.heap.size w3 wf := below_app' hbw7 (own_base how7 (by omega)) (by simp; omega) hgf rfl
          have hRf : Rrd wf w3.heap.size zs 0 := by
            obtain ⟨A7, n7, c7, h7, h7'⟩ := hR7
            have hbR := below_app' (Below.refl (w3.heap.size + 1) _) how7 (by simp; omega) hgf rfl
            exact ⟨A7, n7, c7, h7.below hbR (by omega), h7'.below (hbR.mono (by omega))⟩
          go_roundw
          case rel => exact ⟨k + 1, acc ++ [r], zs, by omega, by go_num, by unfold Hid; rw [List.length_append, hlen.out]; rfl, hRf, hownf, hbwf, hprep2⟩
          case measure => simp [intOf]; omega
      · obtain rfl : k = m := by omega
        have hpr : Hid (rdAll k (xs.drop 12) = .ok (acc, ys)) := by
          have := hprep.out
          rw [Nat.sub_self] at this
          unfold Hid
          rw [this]
          simp [rdAll, prep]
        rw [hpr.out] at hpost
        clear hprep
        obtain ⟨A5, n5, c5, q0, q1, qz0, qz1, hb5⟩ := hR.cells
        have hl5 := hb5.len
        by_cases h0 : 0 < n5
        · have d1 : decide ((n5 : Int) > 0) = true := by simp; omega
          have hpr2 : Hid (decode xs = .error 5) := by
            unfold Hid; rw [hpost.out]; simp only; rw [if_pos (by omega)]
          clear hpost hpr
          go_wp2
          go_ret3
          refine ⟨hbw, ?_⟩
          rw [hpr2.out]
          rfl
        · have d1 : decide ((n5 : Int) > 0) = false := by simp; omega
          have hpr2 : Hid (decode xs = .ok (seq, acc)) := by
            unfold Hid; rw [hpost.out]; simp only; rw [if_neg (by omega)]
          clear hpost hpr
          go_wp2
          go_ret3
          refine ⟨hbw, ?_⟩
          rw [hpr2.out]
          refine ⟨_, rfl, ?_⟩
          rw [hlen.out]
          exact own_base how (by omega)
theorem refDecode_w (A : Option Addr) (n c : Nat) (xs : List UInt8) (w : World) (h : Bsl w w.heap.size A n c xs) :
    Calls Try.prog 24 #[.slice A n c] w (DecPost w xs) := by
  by_cases h1 : 4194304 < n
  · exact refDecode_long A n c xs w h h1
  by_cases h2 : n < 8
  · exact refDecode_short A n c xs w h h2
  by_cases h3 : 72057594037927935 < leNat (xs.take 8)
  · exact refDecode_seq A n c xs w h (by omega) (by omega) h3
  by_cases h4 : n < 12
  · exact refDecode_twelve A n c xs w h (by omega) h4 (by omega)
  by_cases h5 : 4096 < leNat ((xs.drop 8).take 4) ∨ fitsOf (leNat (xs.take 8)) (leNat ((xs.drop 8).take 4)) = false
  · exact refDecode_count A n c xs w h (by omega) (by omega) (by omega) h5
  · have h6 := not_or.1 h5
    exact refDecode_main A n c xs w h (by omega) (by omega) (by omega) (by omega) (by simpa using h6.2)
end Go.Proofs.Ytonhhbebpcaaeaa
