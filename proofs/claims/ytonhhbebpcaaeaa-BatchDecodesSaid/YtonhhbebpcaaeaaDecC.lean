/- The walk of the reader's record. -/
import Derived.Test.YtonhhbebpcaaeaaDecB
namespace Go.Proofs.Ytonhhbebpcaaeaa
open Go.RowKit

def rdRec (xs : List UInt8) : Except Nat (Rec × List UInt8) :=
  match xs with
  | [] => .error 4
  | x :: ys => if 2 < x.toNat then .error 3 else match rdVar 4294967295 ys with
    | .error e => .error e
    | .ok (f, zs) => match rdText 1024 zs with
      | .error e => .error e
      | .ok (key, us) => if x.toNat = 0 then .ok (⟨f, 0, key, ⟨#[]⟩⟩, us) else match rdText (if x.toNat = 1 then 16384 else 1024) us with
        | .error e => .error e
        | .ok (val, vs) => .ok (⟨f, (x.toNat : Nat), key, val⟩, vs)
def RecPost (w : World) (R : Nat) (xs : List UInt8) (e : Ending) (w' : World) : Prop :=
  w.grownBy w' (some R) ∧ match rdRec xs with
  | .error er => e = pan er
  | .ok (r, ys) => e = .returned (vRec r) ∧ Brd w' R ys

theorem grown_trans {a b c : World} {row : Option Nat} (h : a.grownBy b row) (h' : b.grownBy c row) : a.grownBy c row :=
  ⟨h'.os.trans h.os, h'.tape.trans h.tape, h'.output.trans h.output, Nat.le_trans h.size h'.size, fun k hk hne => (h'.block k (Nat.lt_of_lt_of_le hk h.size) hne).trans (h.block k hk hne)⟩
theorem grown_alloc {a b : World} {row : Option Nat} (h : a.grownBy b row) (o : Obj) : a.grownBy (b.alloc o) row :=
  grown_trans h (grown_of_below ((Below.refl _ _).alloc (Nat.le_refl _) o))
theorem grown_new {a b : World} {row : Option Nat} {X i : Nat} {v : Value} (h : a.grownBy b row) (hX : a.heap.size ≤ X) : a.grownBy (b.setCell ⟨X, i, none⟩ v) row :=
  ⟨h.os, h.tape, h.output, by simpa [World.setCell] using h.size, fun k hk hne => (Below.heap_setCell b ⟨X, i, none⟩ v k (by simp; omega)).trans (h.block k hk hne)⟩
theorem Brd.lt {w : World} {R : Nat} {xs : List UInt8} (h : Brd w R xs) : R < w.heap.size := by obtain ⟨A, n, c, hB, hb⟩ := h; exact hB.lt
theorem Brd.alloc {w : World} {R : Nat} {xs : List UInt8} (h : Brd w R xs) (o : Obj) : Brd (w.alloc o) R xs := by
  have hR := h.lt
  obtain ⟨A, n, c, hB, hb⟩ := h
  exact ⟨A, n, c, hB.alloc o, hb.below ((Below.refl _ _).alloc (Nat.le_of_lt hR) o)⟩
theorem Brd.far {w : World} {R X i : Nat} {xs : List UInt8} (h : Brd w R xs) (hX : R < X) (v : Value) : Brd (w.setCell ⟨X, i, none⟩ v) R xs := by
  obtain ⟨A, n, c, hB, hb⟩ := h
  exact ⟨A, n, c, hB.far (by simp; omega) v, hb.keep fun p hp => World.cell?_setCell_far _ _ _ _ (by simp; omega)⟩
theorem rdVar_lt {most : Nat} {xs : List UInt8} {v : Nat} {ys : List UInt8} (e : rdVar most xs = .ok (v, ys)) : v ≤ most := by
  unfold rdVar at e
  split at e
  · cases e
  · split at e
    · cases e
    · injection e with e
      injection e with e1 e2
      omega

theorem rec_blk {w : World} {Y : Nat} {t : TypeId} {p q r s a b c d : Value} (h : Blk w Y t #[p, q, r, s]) :
    Blk ((((w.setCell ⟨Y, 0, none⟩ a).setCell ⟨Y, 1, none⟩ b).setCell ⟨Y, 2, none⟩ c).setCell ⟨Y, 3, none⟩ d) Y t #[a, b, c, d] := by
  simpa using (((h.set 0 a).set 1 b).set 2 c).set 3 d
theorem rec_brd {w : World} {R Y : Nat} {xs : List UInt8} {a b c d : Value} (h : Brd w R xs) (hY : R < Y) :
    Brd ((((w.setCell ⟨Y, 0, none⟩ a).setCell ⟨Y, 1, none⟩ b).setCell ⟨Y, 2, none⟩ c).setCell ⟨Y, 3, none⟩ d) R xs := (((h.far hY a).far hY b).far hY c).far hY d
theorem rec_grown {w0 w : World} {Y : Nat} {row : Option Nat} {a b c d : Value} (h : w0.grownBy w row) (hY : w0.heap.size ≤ Y) :
    w0.grownBy ((((w.setCell ⟨Y, 0, none⟩ a).setCell ⟨Y, 1, none⟩ b).setCell ⟨Y, 2, none⟩ c).setCell ⟨Y, 3, none⟩ d) row := grown_new (grown_new (grown_new (grown_new h hY) hY) hY) hY
theorem rec_size : (Try.prog.info? 44).map (·.size) = some 4 := by kernel_rfl

abbrev rZ : Array Value := #[.int .u32 0, .int .i64 0, .string ⟨#[]⟩, .string ⟨#[]⟩]

set_option maxRecDepth 100000 in
set_option maxHeartbeats 4000000 in
theorem record_empty (R : Nat) (w : World) (h : Brd w R []) :
    Calls Try.prog 61 #[.pointer (some ⟨R, 0, none⟩)] w (RecPost w R []) := by
  have hb := byte_w R [] _ (h.alloc (.cells rZ 44))
  unfold BytePost pan at hb
  go_enter Try.func61, Try.ntmps61
  go_wp2_with (go_at_call 101; refine hb.mono ?_; rintro e w1 ⟨hg1, rfl⟩)
  exact ⟨rfl, grown_trans (grown_alloc (grown_refl _ _) _) hg1, rfl⟩

set_option maxRecDepth 100000 in
set_option maxHeartbeats 4000000 in
theorem record_some (R : Nat) (x : UInt8) (ys : List UInt8) (w : World) (h : Brd w R (x :: ys)) :
    Calls Try.prog 61 #[.pointer (some ⟨R, 0, none⟩)] w (RecPost w R (x :: ys)) := by
  have hR := h.lt
  have hb := byte_w R (x :: ys) _ (h.alloc (.cells rZ 44))
  have hY0 := Blk.new w 44 rZ
  have hneY : some w.heap.size ≠ some R := by simp; omega
  have hx := x.toNat_lt
  unfold BytePost at hb
  have hpost : Hid (rdRec (x :: ys) = if 2 < x.toNat then .error 3 else match rdVar 4294967295 ys with
    | .error e => .error e
    | .ok (f, zs) => match rdText 1024 zs with
      | .error e => .error e
      | .ok (key, us) => if x.toNat = 0 then .ok (⟨f, 0, key, ⟨#[]⟩⟩, us) else match rdText (if x.toNat = 1 then 16384 else 1024) us with
        | .error e => .error e
        | .ok (val, vs) => .ok (⟨f, (x.toNat : Nat), key, val⟩, vs)) := rfl
  obtain ⟨k, hk⟩ : ∃ k, x.toNat = k := ⟨_, rfl⟩
  simp only [hk] at hb hpost hx
  clear hk
  go_enter Try.func61, Try.ntmps61
  go_wp2_with fail
  go_at_call 101
  refine hb.mono ?_
  rintro e w1 ⟨hg1, rfl, hR1⟩
  have hg0 := grown_trans (grown_alloc (grown_refl w (some R)) (.cells rZ 44)) hg1
  have hY1 := hY0.grown hg1 hneY
  have hs1 := hg1.size
  have hR2 := hR1.alloc (.cells #[.int .u32 0, .int .i64 k, .string ⟨#[]⟩, .string ⟨#[]⟩] 44)
  have hX0 := Blk.new w1 44 #[.int .u32 0, .int .i64 k, .string ⟨#[]⟩, .string ⟨#[]⟩]
  have hs2 : w.heap.size + 1 ≤ w1.heap.size := by simpa using hs1
  have hneX : some w1.heap.size ≠ some R := by simp; omega
  by_cases hbad : 2 < k
  · have d : decide ((k : Int) > 2) = true := by simp; omega
    go_wp2
    refine ⟨rfl, grown_alloc hg0 _, ?_⟩
    rw [hpost.out, if_pos hbad]
    rfl
  · have d : decide ((k : Int) > 2) = false := by simp; omega
    have hpost : Hid (rdRec (x :: ys) = match rdVar 4294967295 ys with
      | .error e => .error e
      | .ok (f, zs) => match rdText 1024 zs with
        | .error e => .error e
        | .ok (key, us) => if k = 0 then .ok (⟨f, 0, key, ⟨#[]⟩⟩, us) else match rdText (if k = 1 then 16384 else 1024) us with
          | .error e => .error e
          | .ok (val, vs) => .ok (⟨f, (k : Nat), key, val⟩, vs)) := by unfold Hid; rw [hpost.out, if_neg hbad]
    have hv := varint_rd R 4294967295 ys _ hR2
    unfold VarPost at hv
    cases hq : rdVar 4294967295 ys with
    | error er =>
      rw [hq] at hv
      rw [hq] at hpost
      unfold pan at hv
      go_wp2_with (go_at_call 102; refine hv.mono ?_; rintro e w2 ⟨hg2, rfl⟩)
      refine ⟨rfl, grown_trans (grown_alloc hg0 _) hg2, ?_⟩
      rw [hpost.out]
      rfl
    | ok p =>
      obtain ⟨f, zs⟩ := p
      have hf := rdVar_lt hq
      rw [hq] at hv
      rw [hq] at hpost
      go_wp2_with fail
      go_at_call 102
      refine hv.mono ?_
      rintro e w2 ⟨hg2, rfl, hR3⟩
      have hX2 := hX0.grown hg2 hneX
      have hY2 := (hY1.alloc _).grown hg2 hneY
      have hs3 := hg2.size
      have hs4 : w1.heap.size + 1 ≤ w2.heap.size := by simpa using hs3
      have e0 := hX2.cell 0
      have z0 := hX2.frozen 0
      simp only [List.getElem?_toArray, List.getElem?_cons_zero] at e0
      have hm : (f : Int) % 4294967296 = f := by omega
      have hR4 := hR3.far (X := w1.heap.size) (i := 0) (by omega) (.int .u32 (f : Nat))
      have hX3 : Blk (w2.setCell ⟨w1.heap.size, 0, none⟩ (.int .u32 (f : Nat))) w1.heap.size 44 #[.int .u32 (f : Nat), .int .i64 k, .string ⟨#[]⟩, .string ⟨#[]⟩] := by simpa using hX2.set 0 (.int .u32 (f : Nat))
      have hY3 := hY2.far (p := ⟨w1.heap.size, 0, none⟩) (by simp; omega) (.int .u32 (f : Nat))
      have hg3 : w.grownBy (w2.setCell ⟨w1.heap.size, 0, none⟩ (.int .u32 (f : Nat))) (some R) := grown_new (grown_trans (grown_alloc hg0 _) hg2) (by omega)
      have ht := text_rd R 1024 zs _ hR4
      unfold TextPost at ht
      cases hq2 : rdText 1024 zs with
      | error er =>
        rw [hq2] at ht
        rw [hq2] at hpost
        unfold pan at ht
        go_wp2_with (go_at_call 103; refine ht.mono ?_; rintro e w3 ⟨hg4, rfl⟩)
        refine ⟨rfl, grown_trans hg3 hg4, ?_⟩
        rw [hpost.out]
        rfl
      | ok p2 =>
        obtain ⟨key, us⟩ := p2
        rw [hq2] at ht
        rw [hq2] at hpost
        go_wp2_with fail
        go_at_call 103
        refine ht.mono ?_
        rintro e w3 ⟨hg4, rfl, hR5⟩
        have hX4 := hX3.grown hg4 hneX
        have hY4 := hY3.grown hg4 hneY
        have hs5 := hg4.size
        have hs6 : w1.heap.size + 1 ≤ w3.heap.size := by simp at hs5; omega
        have g1 := hX4.cell 1
        have g2 := hX4.cell 2
        have y2 := hX4.frozen 2
        simp only [List.getElem?_toArray, List.getElem?_cons_succ, List.getElem?_cons_zero] at g1 g2
        have hR6 := hR5.far (X := w1.heap.size) (i := 2) (by omega) (.string key)
        have hX5 : Blk (w3.setCell ⟨w1.heap.size, 2, none⟩ (.string key)) w1.heap.size 44 #[.int .u32 (f : Nat), .int .i64 k, .string key, .string ⟨#[]⟩] := by simpa using hX4.set 2 (.string key)
        have hY5 := hY4.far (p := ⟨w1.heap.size, 2, none⟩) (by simp; omega) (.string key)
        have hg5 : w.grownBy (w3.setCell ⟨w1.heap.size, 2, none⟩ (.string key)) (some R) := grown_new (grown_trans hg3 hg4) (by omega)
        have hpost : Hid (rdRec (x :: ys) = if k = 0 then .ok (⟨f, 0, key, ⟨#[]⟩⟩, us) else match rdText (if k = 1 then 16384 else 1024) us with
          | .error e => .error e
          | .ok (val, vs) => .ok (⟨f, (k : Nat), key, val⟩, vs)) := hpost
        clear hv ht hX0 hX2 hX3 hX4 hY0 hY1 hY2 hY3 hY4 hR1 hR2 hR3 hR4 hR5 hg0 hg1 hg2 hg3 hg4 hb
        have x0 := hX5.cell 0
        have x1 := hX5.cell 1
        have x2 := hX5.cell 2
        have x3 := hX5.cell 3
        have y3 := hX5.frozen 3
        simp only [List.getElem?_toArray, List.getElem?_cons_succ, List.getElem?_cons_zero] at x0 x1 x2 x3
        by_cases hk0 : k = 0
        · subst hk0
          have v0 := hY5.cell 0
          have v1 := hY5.cell 1
          have v2 := hY5.cell 2
          have v3 := hY5.cell 3
          have u0 := hY5.frozen 0
          have u1 := hY5.frozen 1
          have u2 := hY5.frozen 2
          have u3 := hY5.frozen 3
          simp only [List.getElem?_toArray, List.getElem?_cons_succ, List.getElem?_cons_zero] at v0 v1 v2 v3
          go_wp2
          refine bodyPost_ret (results_cell_row rfl _ _ w.heap.size 44 _ (0, 0) _ rfl (rec_blk hY5) Try.underlying44 rfl rec_size) rfl ⟨rec_grown hg5 (Nat.le_refl _), ?_⟩
          rw [hpost.out, if_pos trivial]
          exact ⟨rfl, rec_brd hR6 hR⟩
        · have k0' : ((k : Int) == 0) = false := by simp; omega
          obtain rfl | rfl : k = 1 ∨ k = 2 := by omega
          · have hpf : Hid (rdRec (x :: ys) = match rdText 16384 us with
              | .error e => .error e
              | .ok (val, vs) => .ok (⟨f, (1 : Nat), key, val⟩, vs)) := hpost
            clear hpost
            have ht2 := text_rd R 16384 us _ hR6
            unfold TextPost at ht2
            cases hq3 : rdText 16384 us with
            | error er =>
              rw [hq3] at ht2
              rw [hq3] at hpf
              unfold pan at ht2
              go_wp2_with (go_at_call 103; refine ht2.mono ?_; rintro e w4 ⟨hg6, rfl⟩)
              refine ⟨rfl, grown_trans hg5 hg6, ?_⟩
              rw [hpf.out]
              rfl
            | ok p3 =>
              obtain ⟨val, vs⟩ := p3
              rw [hq3] at ht2
              rw [hq3] at hpf
              go_wp2_with fail
              go_at_call 103
              refine ht2.mono ?_
              rintro e w4 ⟨hg6, rfl, hR7⟩
              have hX6 := hX5.grown hg6 hneX
              have hY6 := hY5.grown hg6 hneY
              have hs7 := hg6.size
              have hs8 : w1.heap.size + 1 ≤ w4.heap.size := by simp at hs7; omega
              have j3 := hX6.cell 3
              have q3 := hX6.frozen 3
              simp only [List.getElem?_toArray, List.getElem?_cons_succ, List.getElem?_cons_zero] at j3
              have hR8 := hR7.far (X := w1.heap.size) (i := 3) (by omega) (.string val)
              have hX7 : Blk (w4.setCell ⟨w1.heap.size, 3, none⟩ (.string val)) w1.heap.size 44 #[.int .u32 (f : Nat), .int .i64 (1 : Nat), .string key, .string val] := by simpa using hX6.set 3 (.string val)
              have hY7 := hY6.far (p := ⟨w1.heap.size, 3, none⟩) (by simp; omega) (.string val)
              have hg7 : w.grownBy (w4.setCell ⟨w1.heap.size, 3, none⟩ (.string val)) (some R) := grown_new (grown_trans hg5 hg6) (by omega)
              have l0 := hX7.cell 0
              have l1 := hX7.cell 1
              have l2 := hX7.cell 2
              have l3 := hX7.cell 3
              simp only [List.getElem?_toArray, List.getElem?_cons_succ, List.getElem?_cons_zero] at l0 l1 l2 l3
              clear x0 x1 x2 x3 hX5 hX6 hY6 hY5 hR6 hR7
              have v0 := hY7.cell 0
              have v1 := hY7.cell 1
              have v2 := hY7.cell 2
              have v3 := hY7.cell 3
              have u0 := hY7.frozen 0
              have u1 := hY7.frozen 1
              have u2 := hY7.frozen 2
              have u3 := hY7.frozen 3
              simp only [List.getElem?_toArray, List.getElem?_cons_succ, List.getElem?_cons_zero] at v0 v1 v2 v3
              go_wp2
              refine bodyPost_ret (results_cell_row rfl _ _ w.heap.size 44 _ (0, 0) _ rfl (rec_blk hY7) Try.underlying44 rfl rec_size) rfl ⟨rec_grown hg7 (Nat.le_refl _), ?_⟩
              rw [hpf.out]
              exact ⟨rfl, rec_brd hR8 hR⟩
          · have hpf : Hid (rdRec (x :: ys) = match rdText 1024 us with
              | .error e => .error e
              | .ok (val, vs) => .ok (⟨f, (2 : Nat), key, val⟩, vs)) := hpost
            clear hpost
            have ht2 := text_rd R 1024 us _ hR6
            unfold TextPost at ht2
            cases hq3 : rdText 1024 us with
            | error er =>
              rw [hq3] at ht2
              rw [hq3] at hpf
              unfold pan at ht2
              go_wp2_with (go_at_call 103; refine ht2.mono ?_; rintro e w4 ⟨hg6, rfl⟩)
              refine ⟨rfl, grown_trans hg5 hg6, ?_⟩
              rw [hpf.out]
              rfl
            | ok p3 =>
              obtain ⟨val, vs⟩ := p3
              rw [hq3] at ht2
              rw [hq3] at hpf
              go_wp2_with fail
              go_at_call 103
              refine ht2.mono ?_
              rintro e w4 ⟨hg6, rfl, hR7⟩
              have hX6 := hX5.grown hg6 hneX
              have hY6 := hY5.grown hg6 hneY
              have hs7 := hg6.size
              have hs8 : w1.heap.size + 1 ≤ w4.heap.size := by simp at hs7; omega
              have j3 := hX6.cell 3
              have q3 := hX6.frozen 3
              simp only [List.getElem?_toArray, List.getElem?_cons_succ, List.getElem?_cons_zero] at j3
              have hR8 := hR7.far (X := w1.heap.size) (i := 3) (by omega) (.string val)
              have hX7 : Blk (w4.setCell ⟨w1.heap.size, 3, none⟩ (.string val)) w1.heap.size 44 #[.int .u32 (f : Nat), .int .i64 (2 : Nat), .string key, .string val] := by simpa using hX6.set 3 (.string val)
              have hY7 := hY6.far (p := ⟨w1.heap.size, 3, none⟩) (by simp; omega) (.string val)
              have hg7 : w.grownBy (w4.setCell ⟨w1.heap.size, 3, none⟩ (.string val)) (some R) := grown_new (grown_trans hg5 hg6) (by omega)
              have l0 := hX7.cell 0
              have l1 := hX7.cell 1
              have l2 := hX7.cell 2
              have l3 := hX7.cell 3
              simp only [List.getElem?_toArray, List.getElem?_cons_succ, List.getElem?_cons_zero] at l0 l1 l2 l3
              clear x0 x1 x2 x3 hX5 hX6 hY6 hY5 hR6 hR7
              have v0 := hY7.cell 0
              have v1 := hY7.cell 1
              have v2 := hY7.cell 2
              have v3 := hY7.cell 3
              have u0 := hY7.frozen 0
              have u1 := hY7.frozen 1
              have u2 := hY7.frozen 2
              have u3 := hY7.frozen 3
              simp only [List.getElem?_toArray, List.getElem?_cons_succ, List.getElem?_cons_zero] at v0 v1 v2 v3
              go_wp2
              refine bodyPost_ret (results_cell_row rfl _ _ w.heap.size 44 _ (0, 0) _ rfl (rec_blk hY7) Try.underlying44 rfl rec_size) rfl ⟨rec_grown hg7 (Nat.le_refl _), ?_⟩
              rw [hpf.out]
              exact ⟨rfl, rec_brd hR8 hR⟩
theorem record_w (R : Nat) (xs : List UInt8) (w : World) (h : Brd w R xs) :
    Calls Try.prog 61 #[.pointer (some ⟨R, 0, none⟩)] w (RecPost w R xs) := by
  cases xs with
  | nil => exact record_empty R w h
  | cons x ys => exact record_some R x ys w h
end Go.Proofs.Ytonhhbebpcaaeaa
