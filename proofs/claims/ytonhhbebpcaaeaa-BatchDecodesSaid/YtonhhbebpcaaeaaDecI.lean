/- The walk of batch.Decode: refused by the count. -/
import Derived.Test.YtonhhbebpcaaeaaDecH
namespace Go.Proofs.Ytonhhbebpcaaeaa
open Go.RowKit

set_option maxRecDepth 100000 in
set_option maxHeartbeats 4000000 in
theorem decode_count (A : Option Addr) (n c : Nat) (xs : List UInt8) (w : World) (h : Bsl w w.heap.size A n c xs) (hn : 12 ≤ n) (hn2 : n ≤ 4194304) (hs : leNat (xs.take 8) ≤ 72057594037927935) (hm : 4096 < leNat ((xs.drop 8).take 4) ∨ fitsOf (leNat (xs.take 8)) (leNat ((xs.drop 8).take 4)) = false) :
    Calls Try.prog 21 #[.slice A n c] w (DecPost w xs) := by
  have hl := h.len
  have hcap := h.cap
  have hbig := h.big
  unfold maxLen at hbig
  have hmf : ∀ (fn : Fn) (first cap : Array Value) (w : World), (Instr.makeFunc fn first cap).run Try.prog w = .ok (.func fn first cap) w := fun _ _ _ _ => rfl
  have hd : decide ((n : Int) > 4194304) = false := by simp; omega
  have hP := ((Blk.new w 38 #[.int .u64 0]).alloc (.cells #[.slice none 0 0] 39)).alloc (.cells #[.int .i64 0] 28)
  have hQ := (Blk.new (w.alloc (.cells #[.int .u64 0] 38)) 39 #[.slice none 0 0]).alloc (.cells #[.int .i64 0] 28)
  have hE := Blk.new ((w.alloc (.cells #[.int .u64 0] 38)).alloc (.cells #[.slice none 0 0] 39)) 28 #[.int .i64 0]
  rw [show (w.alloc (.cells #[.int .u64 0] 38)).heap.size = w.heap.size + 1 by simp] at hQ
  rw [show ((w.alloc (.cells #[.int .u64 0] 38)).alloc (.cells #[.slice none 0 0] 39)).heap.size = w.heap.size + 1 + 1 by simp] at hE
  have hb0 : Below w.heap.size w (((w.alloc (.cells #[.int .u64 0] 38)).alloc (.cells #[.slice none 0 0] 39)).alloc (.cells #[.int .i64 0] 28)) := (((Below.refl _ _).alloc (Nat.le_refl _) _).alloc (by simp) _).alloc (by simp; omega) _
  have hr := readFixed64_w A n c xs _ ((h.below hb0).more hb0.size) (by omega)
  have hpost : Hid (decode xs = .error 3) := by unfold Hid decode; rw [if_neg (by omega), if_neg (by omega), if_neg (by omega), if_neg (by omega), if_pos hm]
  obtain ⟨g, o, rfl, hg, hcell⟩ := h.at_ (k := 0) (by omega)
  clear hcell
  have h8 := h.cut (k := 8) (by omega)
  have hr32 := fun w (hw : Bsl w w.heap.size (some ⟨g, o + 8, none⟩) (n - 8) (c - 8) (xs.drop 8)) => readFixed32_w (some ⟨g, o + 8, none⟩) (n - 8) (c - 8) (xs.drop 8) w hw (by omega)
  have hft := fun w => fits_w (leNat (xs.take 8)) (leNat ((xs.drop 8).take 4)) (by omega) (by have := leNat_lt ((xs.drop 8).take 4); rw [List.length_take, List.length_drop, hl, Nat.min_eq_left (by omega)] at this; unfold maxB; omega) w
  have hm32 : leNat ((xs.drop 8).take 4) < 4294967296 := by have := leNat_lt ((xs.drop 8).take 4); rw [List.length_take, List.length_drop, hl, Nat.min_eq_left (by omega)] at this; omega
  generalize leNat (xs.take 8) = seq at *
  generalize leNat ((xs.drop 8).take 4) = m at *
  have hd2 : decide ((seq : Int) > 72057594037927935) = false := by simp; omega
  have hc8 : ¬ c = 8 := by omega
  by_cases hm1 : 4096 < m
  · have hd3 : decide ((m : Int) > 4096) = true := by simp; omega
    go_enter_defers Try.func21, Try.ntmps21
    go_wp2_with (first
      | (go_at_call 59; refine hr.mono ?_; rintro e w1 ⟨rfl, hb1⟩; have hT1 : Tri w1 w.heap.size _ _ _ := ⟨hP.ext hb1, hQ.ext hb1, hE.ext hb1⟩; have p1 := hT1.1.cell 0; have q1 := hT1.2.1.cell 0; have e1 := hT1.2.2.cell 0; have zp := hT1.1.frozen 0; have zq := hT1.2.1.frozen 0; have ze := hT1.2.2.frozen 0; simp only [List.getElem?_toArray, List.getElem?_cons_zero] at p1 q1 e1; have hbw1 := hb0.trans (hb1.mono hb0.size); have hs1 : w.heap.size + 3 ≤ w1.heap.size := by have := hb1.size; simp at this; omega)
      | (go_at_call 60; refine (hr32 _ ((h8.below (below_set (below_set hbw1 (Nat.le_refl _)) (by omega))).more (by simp; omega))).mono ?_; rintro e w2 ⟨rfl, hb2⟩; have hT2 := ((hT1.p (.int .u64 (seq : Nat))).r (.int .i64 0)).ext hb2; have p2 := hT2.1.cell 0; have q2 := hT2.2.1.cell 0; have e2 := hT2.2.2.cell 0; have zp2 := hT2.1.frozen 0; have zq2 := hT2.2.1.frozen 0; have ze2 := hT2.2.2.frozen 0; simp only [List.getElem?_toArray, List.getElem?_cons_zero] at p2 q2 e2))
    refine door_tri (G := w.heap.size) rfl rfl rfl ((((hT2.r _).p _).q _).r _) ⟨?_, ?_⟩
    · have hbw2 := (below_set (below_set hbw1 (g := w.heap.size) (i := 0) (v := .int .u64 (seq : Nat)) (Nat.le_refl _)) (g := w.heap.size + 1 + 1) (i := 0) (v := .int .i64 0) (by omega)).trans (hb2.mono (by simp; omega))
      repeat (first | exact hbw2 | refine below_set ?_ (by omega))
    · rw [hpost.out]
      rfl
  · have hd3 : decide ((m : Int) > 4096) = false := by simp; omega
    have hff : fitsOf seq m = false := by rcases hm with h1 | h1; exact absurd h1 hm1; exact h1
    rw [hff] at hft
    go_enter_defers Try.func21, Try.ntmps21
    go_wp2_with (first
      | (go_at_call 59; refine hr.mono ?_; rintro e w1 ⟨rfl, hb1⟩; have hT1 : Tri w1 w.heap.size _ _ _ := ⟨hP.ext hb1, hQ.ext hb1, hE.ext hb1⟩; have p1 := hT1.1.cell 0; have q1 := hT1.2.1.cell 0; have e1 := hT1.2.2.cell 0; have zp := hT1.1.frozen 0; have zq := hT1.2.1.frozen 0; have ze := hT1.2.2.frozen 0; simp only [List.getElem?_toArray, List.getElem?_cons_zero] at p1 q1 e1; have hbw1 := hb0.trans (hb1.mono hb0.size); have hs1 : w.heap.size + 3 ≤ w1.heap.size := by have := hb1.size; simp at this; omega)
      | (go_at_call 60; refine (hr32 _ ((h8.below (below_set (below_set hbw1 (Nat.le_refl _)) (by omega))).more (by simp; omega))).mono ?_; rintro e w2 ⟨rfl, hb2⟩; have hT2 := ((hT1.p (.int .u64 (seq : Nat))).r (.int .i64 0)).ext hb2; have hT3 := hT2.r (.int .i64 0); have p2 := hT2.1.cell 0; have q2 := hT2.2.1.cell 0; have e2 := hT2.2.2.cell 0; have zp2 := hT2.1.frozen 0; have zq2 := hT2.2.1.frozen 0; have ze2 := hT2.2.2.frozen 0; simp only [List.getElem?_toArray, List.getElem?_cons_zero] at p2 q2 e2; have p3 := hT3.1.cell 0; have q3 := hT3.2.1.cell 0; have e3 := hT3.2.2.cell 0; simp only [List.getElem?_toArray, List.getElem?_cons_zero] at p3 q3 e3)
      | (go_at_call 46; refine (hft _).mono ?_; rintro e w3 ⟨rfl, hw3⟩; subst hw3))
    refine door_tri (G := w.heap.size) rfl rfl rfl ((((hT2.r _).p _).q _).r _) ⟨?_, ?_⟩
    · have hbw2 := (below_set (below_set hbw1 (g := w.heap.size) (i := 0) (v := .int .u64 (seq : Nat)) (Nat.le_refl _)) (g := w.heap.size + 1 + 1) (i := 0) (v := .int .i64 0) (by omega)).trans (hb2.mono (by simp; omega))
      repeat (first | exact hbw2 | refine below_set ?_ (by omega))
    · rw [hpost.out]
      rfl
end Go.Proofs.Ytonhhbebpcaaeaa
