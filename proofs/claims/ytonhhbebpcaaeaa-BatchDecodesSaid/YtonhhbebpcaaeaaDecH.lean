/- The walk of batch.Decode: refused behind the number. -/
import Derived.Test.YtonhhbebpcaaeaaDecG
namespace Go.Proofs.Ytonhhbebpcaaeaa
open Go.RowKit

/-- The three result cells. -/
def Tri (w : World) (G : Nat) (a b c : Value) : Prop := Blk w G 38 #[a] ∧ Blk w (G + 1) 39 #[b] ∧ Blk w (G + 1 + 1) 28 #[c]
section
variable {w : World} {G : Nat} {a b c : Value}
theorem Tri.p (h : Tri w G a b c) (x : Value) : Tri (w.setCell ⟨G, 0, none⟩ x) G x b c :=
  ⟨by simpa using h.1.set 0 x, h.2.1.far (p := ⟨G, 0, none⟩) (by simp) x, h.2.2.far (p := ⟨G, 0, none⟩) (by simp; omega) x⟩
theorem Tri.q (h : Tri w G a b c) (x : Value) : Tri (w.setCell ⟨G + 1, 0, none⟩ x) G a x c :=
  ⟨h.1.far (p := ⟨G + 1, 0, none⟩) (by simp) x, by simpa using h.2.1.set 0 x, h.2.2.far (p := ⟨G + 1, 0, none⟩) (by simp) x⟩
theorem Tri.r (h : Tri w G a b c) (x : Value) : Tri (w.setCell ⟨G + 1 + 1, 0, none⟩ x) G a b x :=
  ⟨h.1.far (p := ⟨G + 1 + 1, 0, none⟩) (by simp; omega) x, h.2.1.far (p := ⟨G + 1 + 1, 0, none⟩) (by simp) x, by simpa using h.2.2.set 0 x⟩
theorem Tri.drew (h : Tri w G a b c) : Tri w.drew G a b c := h
theorem Tri.ext {w' : World} (h : Tri w G a b c) (hb : Below w.heap.size w w') : Tri w' G a b c := ⟨h.1.ext hb, h.2.1.ext hb, h.2.2.ext hb⟩
theorem Tri.alloc (h : Tri w G a b c) (o : Obj) : Tri (w.alloc o) G a b c := ⟨h.1.alloc o, h.2.1.alloc o, h.2.2.alloc o⟩
theorem Tri.grown {w' : World} {R : Nat} (h : Tri w G a b c) (hg : w.grownBy w' (some R)) (hR : G + 1 + 1 < R) : Tri w' G a b c :=
  ⟨h.1.grown hg (by simp; omega), h.2.1.grown hg (by simp; omega), h.2.2.grown hg (by simp; omega)⟩
theorem Tri.far (h : Tri w G a b c) {R i : Nat} (hR : G + 1 + 1 < R) (v : Value) : Tri (w.setCell ⟨R, i, none⟩ v) G a b c :=
  ⟨h.1.far (p := ⟨R, i, none⟩) (by simp; omega) v, h.2.1.far (p := ⟨R, i, none⟩) (by simp; omega) v, h.2.2.far (p := ⟨R, i, none⟩) (by simp; omega) v⟩
end
theorem door_tri {T : Array Value} {w : World} {G : Nat} {a b c : Value} {Post : Ending → World → Prop} (h2 : T.getD 2 undef = .pointer (some ⟨G, 0, none⟩)) (h3 : T.getD 3 undef = .pointer (some ⟨G + 1, 0, none⟩)) (h4 : T.getD 4 undef = .pointer (some ⟨G + 1 + 1, 0, none⟩))
    (t : Tri w G a b c) (h : Post (.returned (.tuple #[a, b, c])) w) :
    bodyPostD Try.prog Try.f21 Post Exit.ret { tmps := T, defers := [{ target := Target.fn (Fn.func 58) #[.pointer (some ⟨G, 0, none⟩), .pointer (some ⟨G + 1, 0, none⟩), .pointer (some ⟨G + 1 + 1, 0, none⟩)], args := #[] }] } w :=
  door_idle h2 h3 h4 (by simpa using t.1.cell 0) (by simpa using t.2.1.cell 0) (by simpa using t.2.2.cell 0) h

set_option maxRecDepth 100000 in
set_option maxHeartbeats 4000000 in
theorem decode_twelve (A : Option Addr) (n c : Nat) (xs : List UInt8) (w : World) (h : Bsl w w.heap.size A n c xs) (hn : 8 ≤ n) (hn2 : n < 12) (hs : leNat (xs.take 8) ≤ 72057594037927935) :
    Calls Try.prog 21 #[.slice A n c] w (DecPost w xs) := by
  have hl := h.len
  have hcap := h.cap
  have hbig := h.big
  unfold maxLen at hbig
  have hmf : ∀ (fn : Fn) (first cap : Array Value) (w : World), (Instr.makeFunc fn first cap).run Try.prog w = .ok (.func fn first cap) w := fun _ _ _ _ => rfl
  have hd : decide ((n : Int) > 4194304) = false := by simp; omega
  have hP := ((Blk.new w 38 #[.int .u64 0]).alloc (.cells #[.slice none 0 0] 39)).alloc (.cells #[.int .i64 0] 28)
  have hQ := (Blk.new (w.alloc (.cells #[.int .u64 0] 38)) 39 #[.slice none 0 0]).alloc (.cells #[.int .i64 0] 28)
  have hE := Blk.new ((w.alloc (.cells #[.int .u64 0] 38)).alloc (.cells #[.slice none 0 0] 39)) 28 #[.int .i64 0]
  rw [show (w.alloc (.cells #[.int .u64 0] 38)).heap.size = w.heap.size + 1 by simp] at hQ
  rw [show ((w.alloc (.cells #[.int .u64 0] 38)).alloc (.cells #[.slice none 0 0] 39)).heap.size = w.heap.size + 1 + 1 by simp] at hE
  have hb0 : Below w.heap.size w (((w.alloc (.cells #[.int .u64 0] 38)).alloc (.cells #[.slice none 0 0] 39)).alloc (.cells #[.int .i64 0] 28)) := (((Below.refl _ _).alloc (Nat.le_refl _) _).alloc (by simp) _).alloc (by simp; omega) _
  have hr := readFixed64_w A n c xs _ ((h.below hb0).more hb0.size) (by omega)
  have hpost : Hid (decode xs = .error 4) := by unfold Hid decode; rw [if_neg (by omega), if_neg (by omega), if_neg (by omega), if_pos (by omega)]
  obtain ⟨g, o, rfl, hg, hcell⟩ := h.at_ (k := 0) (by omega)
  clear hcell
  generalize leNat (xs.take 8) = seq at *
  have hd2 : decide ((seq : Int) > 72057594037927935) = false := by simp; omega
  have hr32 := fun A c w => readFixed32_short A (n - 8) c w (by omega)
  have h8 : (8 : Int) ≤ (n : Int) := by omega
  go_enter_defers Try.func21, Try.ntmps21
  go_wp2_with (first
    | (go_at_call 59; refine hr.mono ?_; rintro e w1 ⟨rfl, hb1⟩; have hT1 : Tri w1 w.heap.size _ _ _ := ⟨hP.ext hb1, hQ.ext hb1, hE.ext hb1⟩; have p1 := hT1.1.cell 0; have q1 := hT1.2.1.cell 0; have e1 := hT1.2.2.cell 0; have zp := hT1.1.frozen 0; have zq := hT1.2.1.frozen 0; have ze := hT1.2.2.frozen 0; simp only [List.getElem?_toArray, List.getElem?_cons_zero] at p1 q1 e1; have hbw1 := hb0.trans (hb1.mono hb0.size); have hs1 : w.heap.size + 3 ≤ w1.heap.size := by have := hb1.size; simp at this; omega)
    | (go_at_call 60; refine (hr32 _ _ _).mono ?_; rintro e w2 ⟨rfl, hw2⟩; subst hw2; have hT3 := ((hT1.p (.int .u64 (seq : Nat))).r (.int .i64 0)).r (.int .i64 4); have e3 := hT3.2.2.cell 0; have p3 := hT3.1.cell 0; have q3 := hT3.2.1.cell 0; simp only [List.getElem?_toArray, List.getElem?_cons_zero] at e3 p3 q3))
  all_goals go_region
  all_goals go_wp2
  all_goals
    refine door_tri (G := w.heap.size) rfl rfl rfl ((((((hT1.p _).r _).r _).p _).q _).r _).drew ⟨?_, ?_⟩
    · refine below_drew ?_
      repeat (first | exact hbw1 | refine below_set ?_ (by omega))
    · rw [hpost.out]
      rfl

end Go.Proofs.Ytonhhbebpcaaeaa
