/- The writer of a log: New, At, a fragment of a fresh log, a record that fits into the block. -/
import Derived.Test.YtonhhbebpcaaeaaWalE
namespace Go.Proofs.Ytonhhbebpcaaeaa
open Go.RowKit

/-- The writer, as it lies. -/
def WrIs (w : World) (R : Nat) (log : Nat) (rec : Bool) (pos : Nat) : Prop := Blk w R 93 #[.int .u32 (log : Nat), .bool rec, .int .i64 (pos : Nat)]
theorem WrIs.cells {w : World} {R log pos : Nat} {rec : Bool} (h : WrIs w R log rec pos) :
    w.cell? ⟨R, 0, none⟩ = some (.int .u32 (log : Nat)) ∧ w.cell? ⟨R, 1, none⟩ = some (.bool rec) ∧ w.cell? ⟨R, 2, none⟩ = some (.int .i64 (pos : Nat)) ∧ w.frozen? ⟨R, 2, none⟩ = false :=
  ⟨h.cell 0, h.cell 1, h.cell 2, h.frozen 2⟩

theorem at_w (R log pos : Nat) (rec : Bool) (w : World) (h : WrIs w R log rec pos) :
    Calls Try.prog 14 #[.pointer (some ⟨R, 0, none⟩)] w fun e w' => e = .returned (.int .i64 (pos : Nat)) ∧ w' = w := by
  obtain ⟨c0, c1, c2, f2⟩ := h.cells
  go_enter Try.func14, Try.ntmps14
  go_wp2
  go_ret
  exact ⟨rfl, rfl⟩
theorem new_w (log : Nat) (rec : Bool) (w : World) :
    Calls Try.prog 44 #[.int .u32 (log : Nat), .bool rec] w fun e w' => e = .returned (.pointer (some ⟨w.heap.size, 0, none⟩)) ∧ WrIs w' w.heap.size log rec 0 ∧ Below w.heap.size w w' := by
  go_enter Try.func44, Try.ntmps44
  go_wp2
  go_ret
  exact ⟨rfl, Blk.new _ _ _, (Below.refl _ _).alloc (Nat.le_refl _) _⟩

/-- A fragment of a fresh log. -/
def fragBytes (typ : Nat) (b : List UInt8) : List UInt8 :=
  leBytes (maskOf (crc (UInt8.ofNat typ :: b))) 4 ++ [UInt8.ofNat b.length, UInt8.ofNat (b.length / 256)] ++ UInt8.ofNat typ :: b

theorem own_base {w : World} {b b' : Nat} {e : TypeId} {s : Nat} {v : Value} {n : Nat} {xs : List Value} (h : w.ownsRow b e s v n xs) (hb : b' ≤ b) : w.ownsRow b' e s v n xs := by
  refine ⟨h.1, ?_⟩
  rcases h.2 with h2 | ⟨g, cap, cur, h1, h2, h3⟩
  · exact .inl h2
  · exact .inr ⟨g, cap, cur, h1, by omega, h3⟩
theorem own_below' {w w' : World} {b : Nat} {e : TypeId} {s : Nat} {v : Value} {n : Nat} {xs : List Value} (h : w.ownsRow b e s v n xs) (hb : Below w.heap.size w w') : w'.ownsRow b e s v n xs :=
  h.kept (grown_of_below (row := none) hb) (by cases hv : v.ownBlock <;> simp)

set_option maxHeartbeats 1000000 in
theorem wfrag_w (R log pos typ n c : Nat) (A : Option Addr) (b : List UInt8) (w : World) (hr : WrIs w R log false pos) (h : Bsl w w.heap.size A n c b) (ht : typ < 256) (hn : n ≤ 4194304) :
    Calls Try.prog 94 #[.pointer (some ⟨R, 0, none⟩), .int .i64 (typ : Nat), .slice A n c] w fun e w' =>
      ∃ v, e = .returned v ∧ w'.ownsRow w.heap.size 5 1 v (n + 7) ((fragBytes typ b).map eB) ∧ Below w.heap.size w w' := by
  have hlen := h.len
  have hcap := h.cap
  have hbig := h.big
  unfold maxLen at hbig
  obtain ⟨i0, hi0, hz0, hz1, hz2⟩ := info_parts info_byte
  obtain ⟨c0, c1, c2, f2⟩ := hr.cells
  have ht2 : (typ : Int) % 256 = typ := by omega
  have hb0 : Below w.heap.size w (w.alloc (.cells #[.int .u8 (typ : Nat)] 5)) := (Below.refl _ _).alloc (Nat.le_refl _) _
  have ho0 : (w.alloc (.cells #[.int .u8 (typ : Nat)] 5)).ownsRow w.heap.size 5 1 (.slice (some ⟨w.heap.size, 0, none⟩) 1 1) 1 [.int .u8 (typ : Nat)] :=
    World.ownsRow_lit w #[.int .u8 (typ : Nat)] 1 (Nat.le_refl _) (by unfold maxLen; omega) rfl
  have hcell1 := (hb0.cell (p := ⟨R, 1, none⟩) hr.lt).trans c1
  have hh := h.below hb0
  clear c0 c1 c2 f2
  have hsz0 : w.heap.size + 1 ≤ (w.alloc (.cells #[.int .u8 (typ : Nat)] 5)).heap.size := by simp
  have hsaid : Hid ([Value.int .u8 (typ : Nat)] ++ b.map eB = (UInt8.ofNat typ :: b).map eB) := by
    unfold Hid
    rw [List.map_cons, eB_ofNat, ht2]
    rfl
  have hfb : Hid ((leBytes (maskOf (crc (UInt8.ofNat typ :: b))) 4).map eB ++ [Value.int .u8 ((n : Int) % 256), Value.int .u8 ((n : Int) / 256 % 256)] ++ (UInt8.ofNat typ :: b).map eB = (fragBytes typ b).map eB) := by
    unfold Hid fragBytes
    rw [List.map_append, List.map_append, hlen]
    simp [eB_ofNat]
  have hsl : (UInt8.ofNat typ :: b).length = 1 + n := by simp [hlen]; omega
  generalize UInt8.ofNat typ :: b = said at *
  go_enter Try.func94, Try.ntmps94
  go_wp2_with (at_builtin; (refine wpList_append_rd _ rfl (.tmp 26) (.tmp 27) _ rfl w.heap.size 5 i0 _ 1 1 Try.underlying22 hi0 hz0 hz1 hz2 rfl (by decide) _ _ _ rfl ho0 w.heap.size A n c (b.map eB) rfl (by simp [hlen]) hh.rd (eB_one b) (by unfold maxLen; omega) (by omega) (by omega) ?_; intro v1 w1 hown1 hg1 hat1; rw [hsaid.out] at hown1; obtain ⟨A1, cap1, rfl, hA1⟩ := own_form hown1))
  have hb1 : Below w.heap.size w w1 := hb0.grown hg1 (by omega) (fun k e => by have := (ho0.lt k e).1; exact this)
  have hs1 := hg1.size
  have hbs1 := Bsl.of_own hown1 (by unfold maxB; omega)
  go_at_call 120
  refine (sum_w _ _ _ said _ hbs1).mono ?_
  rintro e w2 ⟨rfl, hb2⟩
  have hcr := crc_lt said
  have hmk := maskOf_lt (crc said)
  have hown2 := own_below' hown1 hb2
  have hs2 := hb2.size
  have hbw2 : Below w.heap.size w w2 := hb1.trans (hb2.mono (by omega))
  generalize crc said = C at *
  go_wp2_with fail
  go_at_call 119
  refine (mask_w C hcr _).mono ?_
  rintro e w2' ⟨rfl, rfl⟩
  generalize maskOf C = M at *
  go_wp2_with fail
  go_at_call 48
  refine (fixed32_w M hmk _).mono ?_
  rintro e w3 ⟨v3, rfl, hown3, hb3⟩
  have hs3 := hb3.size
  have hown3' := own_base hown3 (b' := w.heap.size) (by omega)
  have hownS := own_below' hown2 hb3
  have hbw3 : Below w.heap.size w w3 := hbw2.trans (hb3.mono (by omega))
  have hne3 : (Value.slice A1 (1 + n) cap1).ownBlock = none ∨ (Value.slice A1 (1 + n) cap1).ownBlock ≠ v3.ownBlock := by
    cases hq : (Value.slice A1 (1 + n) cap1).ownBlock with
    | none => exact .inl rfl
    | some k => exact .inr (fun e => by have h1 := (hown2.lt k hq).2; have h2 := (hown3.lt k e.symm).1; omega)
  go_wp2_with (first
    | (at_builtin; (refine wpList_append_own_at _ rfl (.tmp 33) (.tmp 41) _ rfl w.heap.size 5 i0 _ 1 1 Try.underlying22 hi0 hz0 hz1 hz2 rfl (by decide) _ _ _ rfl (hown3'.alloc _) _ 2 2 [Value.int .u8 ((n : Int) % 256), Value.int .u8 ((n : Int) / 256 % 256)] rfl rfl (cells_two_at _ _ _ _ _ (by simp)) (by simp [Value.oneCell']) (by unfold maxLen; omega) (by omega) (by simp; omega) ?_; intro v4 w4 hown4 hg4 _ hat4; have hownS4 := (hownS.alloc (.cells #[Value.int .u8 ((n : Int) % 256), Value.int .u8 ((n : Int) / 256 % 256)] 5)).kept hg4 hne3; have hbw4 := below_app hbw3 hown3' (by omega) hg4 rfl; have hs4 := hbw4.size))
    | (at_builtin; (refine wpList_append_rd _ rfl (.tmp 43) (.tmp 44) _ rfl w.heap.size 5 i0 _ 1 1 Try.underlying22 hi0 hz0 hz1 hz2 rfl (by decide) _ _ _ rfl hown4 w4.heap.size A1 (1 + n) cap1 (said.map eB) rfl (by simp [hsl]) (Rd.of_own hownS4) (eB_one said) (by unfold maxLen; omega) (by omega) (by omega) ?_; intro v5 w5 hown5 hg5 hat5)))
  go_ret
  rw [hfb.out] at hown5
  refine ⟨v5, rfl, ?_, below_app' hbw4 hown4 (by omega) hg5 rfl⟩
  rw [show n + 7 = 4 + 2 + (1 + n) by omega]
  exact hown5

set_option maxRecDepth 100000 in
set_option maxHeartbeats 1000000 in
/-- A record that fits into the block. -/
theorem add_w (R log pos n c : Nat) (A : Option Addr) (b : List UInt8) (w : World) (hr : WrIs w R log false pos) (h : Bsl w w.heap.size A n c b) (hfit : n + 7 + pos % 4096 < 4096) (hpos : pos ≤ 1073741824) :
    Calls Try.prog 45 #[.pointer (some ⟨R, 0, none⟩), .slice A n c] w fun e w' =>
      ∃ v, e = .returned (.tuple #[v, .int .i64 0]) ∧ w'.ownsRow w.heap.size 5 1 v (n + 7) ((fragBytes 1 b).map eB) ∧ w.grownBy w' (some R) ∧ WrIs w' R log false (pos + (n + 7)) := by
  have hlen := h.len
  have hcap := h.cap
  have hbig := h.big
  have hRlt := hr.lt
  unfold maxLen at hbig
  obtain ⟨i0, hi0, hz0, hz1, hz2⟩ := info_parts info_byte
  obtain ⟨c0, c1, c2, f2⟩ := hr.cells
  have t1 : decide ((4194304 : Int) < (n : Int)) = false := by simp; omega
  have t2 : decide ((1073741824 : Int) < (pos : Int)) = false := by simp; omega
  have t3 : decide ((4096 : Int) - (pos : Int) % 4096 < 7) = false := by simp; omega
  have t4 : (n : Int) < 4096 - (pos : Int) % 4096 - 7 := by omega
  have hfr := wfrag_w R log pos 1 n c A b w hr h (by omega) (by omega)
  have hpos2 : (pos : Int) ≤ 1073741824 := by omega
  go_enter Try.func45, Try.ntmps45
  go_wp2
  refine wp_loop_once ?_
  go_wp2_with fail
  go_at_call 94
  refine hfr.mono ?_
  rintro e w1 ⟨v1, rfl, hown1, hb1⟩
  obtain ⟨A1, cap1, rfl, hA1⟩ := own_form hown1
  have hs1 := hb1.size
  have hr1 : WrIs w1 R log false pos := Blk.ext hr hb1
  clear hfr
  go_wp2_with (at_builtin; refine wpList_append_rd _ rfl (.tmp 62) (.tmp 68) _ rfl w.heap.size 5 i0 _ 1 1 Try.underlying22 hi0 hz0 hz1 hz2 rfl (by decide) _ _ _ rfl (World.ownsRow_nil _ _ _ _) w1.heap.size A1 (n + 7) cap1 ((fragBytes 1 b).map eB) rfl (by have := hown1.1; simpa using this) (Rd.of_own hown1) (eB_one _) (by unfold maxLen; omega) (by omega) (by omega) ?_; intro v2 w2 hown2 hg2 hat2; obtain ⟨A2, cap2, rfl, hA2⟩ := own_form hown2; have hr2 : WrIs w2 R log false pos := Blk.grown hr1 hg2 (by simp [Value.ownBlock, Act.eval]); obtain ⟨d0, d1, d2, g2⟩ := hr2.cells)
  all_goals
    go_ret2
    have hg3 : w.grownBy w2 (some R) := (grown_of_below hb1).trans ⟨hg2.os, hg2.tape, hg2.output, hg2.size, fun k hk hne => hg2.block k hk (by simp [Value.ownBlock, Act.eval])⟩
    have hown3 : w2.ownsRow w.heap.size 5 1 (.slice A2 (n + 7) cap2) (n + 7) ((fragBytes 1 b).map eB) := by simpa using hown2
    refine ⟨_, rfl, hown3.kept (grown_set (World.grownBy.refl w2 (some R)) (i := 2) (v := .int .i64 ((pos : Int) + ((n : Int) + 7)))) (.inr (fun e => by have := (hown3.lt R e).1; omega)), grown_set hg3, ?_⟩
    have hs := Blk.set hr2 2 (.int .i64 ((pos : Int) + ((n : Int) + 7)))
    have e : ((pos : Int) + ((n : Int) + 7)) = ((pos + (n + 7) : Nat) : Int) := by omega
    rw [e] at hs ⊢
    exact hs
end Go.Proofs.Ytonhhbebpcaaeaa
