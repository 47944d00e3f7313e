/- The walk of batch.Decode: the bytes that are refused ahead of the records. -/
import Derived.Test.YtonhhbebpcaaeaaDecF
namespace Go.Proofs.Ytonhhbebpcaaeaa
open Go.RowKit

set_option maxRecDepth 100000 in
set_option maxHeartbeats 2000000 in
theorem decode_long (A : Option Addr) (n c : Nat) (xs : List UInt8) (w : World) (h : Bsl w w.heap.size A n c xs) (hn : 4194304 < n) :
    Calls Try.prog 21 #[.slice A n c] w (DecPost w xs) := by
  have hl := h.len
  have hmf : ∀ (fn : Fn) (first cap : Array Value) (w : World), (Instr.makeFunc fn first cap).run Try.prog w = .ok (.func fn first cap) w := fun _ _ _ _ => rfl
  have hd : decide ((n : Int) > 4194304) = true := by simp; omega
  have hpost : Hid (decode xs = .error 2) := by unfold Hid decode; rw [if_pos (by omega)]
  have hP := ((Blk.new w 38 #[.int .u64 0]).alloc (.cells #[.slice none 0 0] 39)).alloc (.cells #[.int .i64 2] 28)
  have hQ := (Blk.new (w.alloc (.cells #[.int .u64 0] 38)) 39 #[.slice none 0 0]).alloc (.cells #[.int .i64 2] 28)
  have hE := Blk.new ((w.alloc (.cells #[.int .u64 0] 38)).alloc (.cells #[.slice none 0 0] 39)) 28 #[.int .i64 2]
  rw [show (w.alloc (.cells #[.int .u64 0] 38)).heap.size = w.heap.size + 1 by simp] at hQ
  rw [show ((w.alloc (.cells #[.int .u64 0] 38)).alloc (.cells #[.slice none 0 0] 39)).heap.size = w.heap.size + 1 + 1 by simp] at hE
  have hb0 : Below w.heap.size w (((w.alloc (.cells #[.int .u64 0] 38)).alloc (.cells #[.slice none 0 0] 39)).alloc (.cells #[.int .i64 2] 28)) := (((Below.refl _ _).alloc (Nat.le_refl _) _).alloc (by simp) _).alloc (by simp; omega) _
  go_enter_defers Try.func21, Try.ntmps21
  go_wp2
  refine door_idle (G := w.heap.size) rfl rfl rfl (hP.cell 0) (hQ.cell 0) (hE.cell 0) ⟨hb0, ?_⟩
  rw [hpost.out]
  rfl

set_option maxRecDepth 100000 in
set_option maxHeartbeats 2000000 in
theorem decode_short (A : Option Addr) (n c : Nat) (xs : List UInt8) (w : World) (h : Bsl w w.heap.size A n c xs) (hn : n < 8) :
    Calls Try.prog 21 #[.slice A n c] w (DecPost w xs) := by
  have hl := h.len
  have hmf : ∀ (fn : Fn) (first cap : Array Value) (w : World), (Instr.makeFunc fn first cap).run Try.prog w = .ok (.func fn first cap) w := fun _ _ _ _ => rfl
  have hd : decide ((n : Int) > 4194304) = false := by simp; omega
  have hpost : Hid (decode xs = .error 4) := by unfold Hid decode; rw [if_neg (by omega), if_pos (by omega)]
  have hP := ((Blk.new w 38 #[.int .u64 0]).alloc (.cells #[.slice none 0 0] 39)).alloc (.cells #[.int .i64 4] 28)
  have hQ := (Blk.new (w.alloc (.cells #[.int .u64 0] 38)) 39 #[.slice none 0 0]).alloc (.cells #[.int .i64 4] 28)
  have hE := Blk.new ((w.alloc (.cells #[.int .u64 0] 38)).alloc (.cells #[.slice none 0 0] 39)) 28 #[.int .i64 4]
  rw [show (w.alloc (.cells #[.int .u64 0] 38)).heap.size = w.heap.size + 1 by simp] at hQ
  rw [show ((w.alloc (.cells #[.int .u64 0] 38)).alloc (.cells #[.slice none 0 0] 39)).heap.size = w.heap.size + 1 + 1 by simp] at hE
  have hb0 : Below w.heap.size w (((w.alloc (.cells #[.int .u64 0] 38)).alloc (.cells #[.slice none 0 0] 39)).alloc (.cells #[.int .i64 4] 28)) := (((Below.refl _ _).alloc (Nat.le_refl _) _).alloc (by simp) _).alloc (by simp; omega) _
  have hr := fun w => readFixed64_short A n c w hn
  go_enter_defers Try.func21, Try.ntmps21
  go_wp2_with (go_at_call 59; refine (hr _).mono ?_; rintro e w1 ⟨rfl, hw1⟩; subst hw1)
  go_region
  go_wp2
  refine door_idle (G := w.heap.size) rfl rfl rfl (hP.drew.cell 0) (hQ.drew.cell 0) (hE.drew.cell 0) ⟨below_drew hb0, ?_⟩
  rw [hpost.out]
  rfl

/-- The three result cells behind two stores. -/
theorem cells_two {w : World} {G : Nat} {t1 t2 t3 : TypeId} {a b c x y : Value} (p : Blk w G t1 #[a]) (q : Blk w (G + 1) t2 #[b]) (r : Blk w (G + 1 + 1) t3 #[c]) :
    Blk ((w.setCell ⟨G, 0, none⟩ x).setCell ⟨G + 1 + 1, 0, none⟩ y) G t1 #[x] ∧ Blk ((w.setCell ⟨G, 0, none⟩ x).setCell ⟨G + 1 + 1, 0, none⟩ y) (G + 1) t2 #[b] ∧ Blk ((w.setCell ⟨G, 0, none⟩ x).setCell ⟨G + 1 + 1, 0, none⟩ y) (G + 1 + 1) t3 #[y] := by
  refine ⟨?_, ?_, ?_⟩
  · have := (p.set 0 x).far (p := ⟨G + 1 + 1, 0, none⟩) (by simp; omega) y
    simpa using this
  · have := (q.far (p := ⟨G, 0, none⟩) (by simp) x).far (p := ⟨G + 1 + 1, 0, none⟩) (by simp) y
    simpa using this
  · have := (r.far (p := ⟨G, 0, none⟩) (by simp; omega) x).set 0 y
    simpa using this
theorem cells_three {w : World} {G : Nat} {t1 t2 t3 : TypeId} {a b c x y z : Value} (p : Blk w G t1 #[a]) (q : Blk w (G + 1) t2 #[b]) (r : Blk w (G + 1 + 1) t3 #[c]) :
    Blk (((w.setCell ⟨G, 0, none⟩ x).setCell ⟨G + 1, 0, none⟩ z).setCell ⟨G + 1 + 1, 0, none⟩ y) G t1 #[x] ∧ Blk (((w.setCell ⟨G, 0, none⟩ x).setCell ⟨G + 1, 0, none⟩ z).setCell ⟨G + 1 + 1, 0, none⟩ y) (G + 1) t2 #[z] ∧ Blk (((w.setCell ⟨G, 0, none⟩ x).setCell ⟨G + 1, 0, none⟩ z).setCell ⟨G + 1 + 1, 0, none⟩ y) (G + 1 + 1) t3 #[y] := by
  refine ⟨?_, ?_, ?_⟩
  · have := ((p.set 0 x).far (p := ⟨G + 1, 0, none⟩) (by simp) z).far (p := ⟨G + 1 + 1, 0, none⟩) (by simp; omega) y
    simpa using this
  · have := ((q.far (p := ⟨G, 0, none⟩) (by simp) x).set 0 z).far (p := ⟨G + 1 + 1, 0, none⟩) (by simp) y
    simpa using this
  · have := ((r.far (p := ⟨G, 0, none⟩) (by simp; omega) x).far (p := ⟨G + 1, 0, none⟩) (by simp) z).set 0 y
    simpa using this

set_option maxRecDepth 100000 in
set_option maxHeartbeats 2000000 in
theorem decode_seq (A : Option Addr) (n c : Nat) (xs : List UInt8) (w : World) (h : Bsl w w.heap.size A n c xs) (hn : 8 ≤ n) (hn2 : n ≤ 4194304) (hs : 72057594037927935 < leNat (xs.take 8)) :
    Calls Try.prog 21 #[.slice A n c] w (DecPost w xs) := by
  have hl := h.len
  have hmf : ∀ (fn : Fn) (first cap : Array Value) (w : World), (Instr.makeFunc fn first cap).run Try.prog w = .ok (.func fn first cap) w := fun _ _ _ _ => rfl
  have hd : decide ((n : Int) > 4194304) = false := by simp; omega
  have hP := ((Blk.new w 38 #[.int .u64 0]).alloc (.cells #[.slice none 0 0] 39)).alloc (.cells #[.int .i64 0] 28)
  have hQ := (Blk.new (w.alloc (.cells #[.int .u64 0] 38)) 39 #[.slice none 0 0]).alloc (.cells #[.int .i64 0] 28)
  have hE := Blk.new ((w.alloc (.cells #[.int .u64 0] 38)).alloc (.cells #[.slice none 0 0] 39)) 28 #[.int .i64 0]
  rw [show (w.alloc (.cells #[.int .u64 0] 38)).heap.size = w.heap.size + 1 by simp] at hQ
  rw [show ((w.alloc (.cells #[.int .u64 0] 38)).alloc (.cells #[.slice none 0 0] 39)).heap.size = w.heap.size + 1 + 1 by simp] at hE
  have hb0 : Below w.heap.size w (((w.alloc (.cells #[.int .u64 0] 38)).alloc (.cells #[.slice none 0 0] 39)).alloc (.cells #[.int .i64 0] 28)) := (((Below.refl _ _).alloc (Nat.le_refl _) _).alloc (by simp) _).alloc (by simp; omega) _
  have hr := readFixed64_w A n c xs _ ((h.below hb0).more hb0.size) (by omega)
  have hpost : Hid (decode xs = .error 3) := by unfold Hid decode; rw [if_neg (by omega), if_neg (by omega), if_pos hs]
  generalize leNat (xs.take 8) = seq at *
  have hd2 : decide ((seq : Int) > 72057594037927935) = true := by simp; omega
  go_enter_defers Try.func21, Try.ntmps21
  go_wp2_with (go_at_call 59; refine hr.mono ?_; rintro e w1 ⟨rfl, hb1⟩; have hP1 := hP.ext hb1; have hQ1 := hQ.ext hb1; have hE1 := hE.ext hb1; have p1 := hP1.cell 0; have q1 := hQ1.cell 0; have e1 := hE1.cell 0; have zp := hP1.frozen 0; have zq := hQ1.frozen 0; have ze := hE1.frozen 0; simp only [List.getElem?_toArray, List.getElem?_cons_zero] at p1 q1 e1; have hbw1 := hb0.trans (hb1.mono hb0.size))
  have hc2 := cells_two (x := .int .u64 (seq : Nat)) (y := .int .i64 0) hP1 hQ1 hE1
  have hc3 := cells_three (x := .int .u64 0) (y := .int .i64 3) (z := .slice none 0 0) hc2.1 hc2.2.1 hc2.2.2
  refine door_idle (G := w.heap.size) rfl rfl rfl (hc3.1.cell 0) (hc3.2.1.cell 0) (hc3.2.2.cell 0) ⟨?_, ?_⟩
  · repeat (first | exact hbw1 | refine below_set ?_ (by omega))
  · rw [hpost.out]
    rfl
end Go.Proofs.Ytonhhbebpcaaeaa
