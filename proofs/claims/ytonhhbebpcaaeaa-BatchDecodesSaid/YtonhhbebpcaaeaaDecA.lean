/- Reading a batch's parts: what is read, no program in sight; and the walks of the program's byte, varint, text. -/
import Derived.Test.YtonhhbebpcaaeaaBatH
import Derived.Test.YtonhhbebpcaaeaaWalB
import Derived.WalkLawsBesides
namespace Go.Proofs.Ytonhhbebpcaaeaa
open Go.RowKit

def rdVar (most : Nat) (xs : List UInt8) : Except Nat (Nat × List UInt8) :=
  if (readVar xs).2.2 ≠ 0 then .error (readVar xs).2.2 else if most < (readVar xs).1 then .error 3 else .ok ((readVar xs).1, xs.drop (readVar xs).2.1)
def strOf (xs : List UInt8) : ByteArray := ⟨xs.toArray⟩
def rdText (most : Nat) (xs : List UInt8) : Except Nat (ByteArray × List UInt8) :=
  match rdVar most xs with
  | .error e => .error e
  | .ok (n, ys) => if ys.length < n then .error 4 else .ok (strOf (ys.take n), ys.drop n)
def pan (e : Nat) : Ending := .panicked [{ v := .iface 28 (.int .i64 (e : Nat)), recovered := false }]

theorem rvGo_in (i n : Nat) (xs : List UInt8) : (rvGo i n xs).2.2 ≤ 4 ∧ (rvGo i n xs).2.1 ≤ i + xs.length ∧ ((rvGo i n xs).2.2 ≠ 0 → (rvGo i n xs).2.1 = 0) := by
  induction xs generalizing i n with
  | nil => simp [rvGo]
  | cons x xs ih =>
    simp only [rvGo, List.length_cons]
    split
    · simp
    · split
      · simp
      · split
        · exact ⟨by simp, by simp only; omega, by simp⟩
        · have := ih (i + 1) (n + x.toNat % 128 * 128 ^ i)
          omega
theorem rvGo_lt (i n : Nat) (xs : List UInt8) (hi : i ≤ 9) (hn : n < 128 ^ i) : (rvGo i n xs).1 < 18446744073709551616 := by
  induction xs generalizing i n with
  | nil => simp [rvGo]
  | cons x xs ih =>
    simp only [rvGo]
    split
    · simp
    · rename_i h9
      split
      · simp
      · rename_i h0
        have hv := rv_lt (x := x.toNat) hi hn (fun e => by omega)
        split
        · exact hv
        · exact ih (i + 1) _ (by omega) (rv_next hn)
theorem rvGo_pos (i n : Nat) (xs : List UInt8) (h : (rvGo i n xs).2.2 = 0) : i + 1 ≤ (rvGo i n xs).2.1 := by
  induction xs generalizing i n with
  | nil => simp [rvGo] at h
  | cons x xs ih =>
    simp only [rvGo] at h ⊢
    split at h
    · simp at h
    · rename_i h9
      rw [if_neg h9]
      split at h
      · simp at h
      · rename_i h0
        rw [if_neg h0]
        split at h
        · rename_i hx
          rw [if_pos hx]
          simp
        · rename_i hx
          rw [if_neg hx]
          have := ih _ _ h
          omega
theorem readVar_pos (xs : List UInt8) (h : (readVar xs).2.2 = 0) : 1 ≤ (readVar xs).2.1 := rvGo_pos 0 0 xs h
theorem readVar_le (xs : List UInt8) : (readVar xs).2.1 ≤ xs.length := by have := rvGo_in 0 0 xs; unfold readVar; omega
theorem readVar_lt (xs : List UInt8) : (readVar xs).1 < 18446744073709551616 := rvGo_lt 0 0 xs (by omega) (by omega)

/-- A reader at block R with xs still to read. -/
def Brd (w : World) (R : Nat) (xs : List UInt8) : Prop := ∃ A n c, Blk w R 114 #[.slice A n c] ∧ Bsl w R A n c xs
theorem Brd.put {w : World} {R : Nat} {v : Value} {A : Option Addr} {n c : Nat} {ys : List UInt8} (h : Blk w R 114 #[v]) (hb : Bsl w R A n c ys) : Brd (w.setCell ⟨R, 0, none⟩ (.slice A n c)) R ys := by
  refine ⟨A, n, c, by simpa using h.set 0 (.slice A n c), hb.keep fun p hp => ?_⟩
  exact World.cell?_setCell_far _ _ _ _ (by simp; omega)
theorem grown_refl (w : World) (row : Option Nat) : w.grownBy w row := grown_of_below (Below.refl _ _)

def BytePost (w : World) (R : Nat) (xs : List UInt8) (e : Ending) (w' : World) : Prop :=
  w.grownBy w' (some R) ∧ match xs with
  | [] => e = pan 4
  | x :: ys => e = .returned (.int .u8 (x.toNat : Nat)) ∧ Brd w' R ys
def VarPost (w : World) (R most : Nat) (xs : List UInt8) (e : Ending) (w' : World) : Prop :=
  w.grownBy w' (some R) ∧ match rdVar most xs with
  | .error er => e = pan er
  | .ok (n, ys) => e = .returned (.int .u64 (n : Nat)) ∧ Brd w' R ys
def TextPost (w : World) (R most : Nat) (xs : List UInt8) (e : Ending) (w' : World) : Prop :=
  w.grownBy w' (some R) ∧ match rdText most xs with
  | .error er => e = pan er
  | .ok (s, ys) => e = .returned (.string s) ∧ Brd w' R ys

set_option maxHeartbeats 1000000 in
theorem byte_w (R : Nat) (xs : List UInt8) (w : World) (h : Brd w R xs) :
    Calls Try.prog 101 #[.pointer (some ⟨R, 0, none⟩)] w (BytePost w R xs) := by
  obtain ⟨A, n, c, hB, hb⟩ := h
  have hl := hb.len
  have hcap := hb.cap
  have hbig := hb.big
  unfold maxLen at hbig
  have c0 := hB.cell 0
  have z0 := hB.frozen 0
  simp only [List.getElem?_toArray, List.getElem?_cons_zero] at c0
  cases xs with
  | nil =>
    simp only [List.length_nil] at hl
    subst hl
    go_enter Try.func101, Try.ntmps101
    go_wp2
    exact ⟨rfl, grown_refl _ _, rfl⟩
  | cons x ys =>
    have hn : 0 < n := by rw [← hl]; simp
    obtain ⟨g, o, rfl, hg, hcell⟩ := hb.at_ hn
    simp only [List.getD_cons_zero, Nat.add_zero] at hcell
    have hd : ((n : Int) == 0) = false := by simp; omega
    have hx := x.toNat_lt
    have h1 := fun hk => hb.cut (k := 1) hk
    have h0 := fun hk hn => hb.cut0 (k := 1) hk hn
    simp only [List.drop_succ_cons, List.drop_zero] at h1 h0
    go_enter Try.func101, Try.ntmps101
    go_wp2
    · go_ret
      refine ⟨grown_set (grown_refl _ _), rfl, ?_⟩
      exact Brd.put hB (h0 (by assumption) (by omega))
    · go_ret
      refine ⟨grown_set (grown_refl _ _), rfl, ?_⟩
      exact Brd.put hB (h1 (by omega))

set_option maxHeartbeats 2000000 in
theorem varint_rd (R most : Nat) (xs : List UInt8) (w : World) (h : Brd w R xs) :
    Calls Try.prog 102 #[.pointer (some ⟨R, 0, none⟩), .int .u64 most] w (VarPost w R most xs) := by
  obtain ⟨A, n, c, hB, hb⟩ := h
  have hl := hb.len
  have hcap := hb.cap
  have hbig := hb.big
  unfold maxLen at hbig
  have hRw := hB.lt
  have c0 := hB.cell 0
  simp only [List.getElem?_toArray, List.getElem?_cons_zero] at c0
  have hrv := fun w (hw : Bsl w w.heap.size A n c xs) => readVarint_w A n c xs w hw
  have hb2 := hb.more (Nat.le_of_lt hRw)
  have hle := readVar_le xs
  have hlt := readVar_lt xs
  have hpos := readVar_pos xs
  have hpost : Hid (rdVar most xs = if (readVar xs).2.2 ≠ 0 then .error (readVar xs).2.2 else if most < (readVar xs).1 then .error 3 else .ok ((readVar xs).1, xs.drop (readVar xs).2.1)) := rfl
  by_cases he : (readVar xs).2.2 = 0
  · have hk1 := hpos he
    obtain ⟨g, o, rfl, hg, hcell⟩ := hb.at_ (k := 0) (by omega)
    have h1 := hb.cut (k := (readVar xs).2.1) (by omega)
    have h0 := fun hk => hb.cut0 (k := (readVar xs).2.1) hk (by omega)
    clear hcell
    generalize xs.drop (readVar xs).2.1 = ys at *
    generalize (readVar xs).2.1 = k at *
    generalize (readVar xs).2.2 = er at *
    generalize (readVar xs).1 = v at *
    subst he
    by_cases hv : most < v
    · have d2 : decide ((v : Int) > (most : Int)) = true := by simp; omega
      go_enter Try.func102, Try.ntmps102
      go_wp2_with (go_at_call 122; refine (hrv _ hb2).mono ?_; rintro e w1 ⟨rfl, hb1⟩)
      refine ⟨rfl, grown_of_below hb1, ?_⟩
      rw [hpost.out, if_neg (by simp), if_pos hv]
      rfl
    · have d2 : decide ((v : Int) > (most : Int)) = false := by simp; omega
      go_enter Try.func102, Try.ntmps102
      go_wp2_with (go_at_call 122; refine (hrv _ hb2).mono ?_; rintro e w1 ⟨rfl, hb1⟩; have hB1 := hB.ext hb1; have c1 := hB1.cell 0; have z1 := hB1.frozen 0; simp only [List.getElem?_toArray, List.getElem?_cons_zero] at c1)
      · go_ret
        refine ⟨grown_set (grown_of_below hb1), ?_⟩
        rw [hpost.out, if_neg (by simp), if_neg hv]
        exact ⟨rfl, Brd.put hB1 ((h0 (by assumption)).below (hb1.mono (Nat.le_of_lt hRw)))⟩
      · go_ret
        refine ⟨grown_set (grown_of_below hb1), ?_⟩
        rw [hpost.out, if_neg (by simp), if_neg hv]
        exact ⟨rfl, Brd.put hB1 (h1.below (hb1.mono (Nat.le_of_lt hRw)))⟩
  · generalize xs.drop (readVar xs).2.1 = ys at *
    generalize (readVar xs).2.1 = k at *
    generalize (readVar xs).2.2 = er at *
    generalize (readVar xs).1 = v at *
    have d1 : ((er : Int) != 0) = true := by simp; omega
    go_enter Try.func102, Try.ntmps102
    go_wp2_with (go_at_call 122; refine (hrv _ hb2).mono ?_; rintro e w1 ⟨rfl, hb1⟩)
    refine ⟨rfl, grown_of_below hb1, ?_⟩
    rw [hpost.out, if_pos he]
    rfl
end Go.Proofs.Ytonhhbebpcaaeaa
