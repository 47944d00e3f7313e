/- The reference's reader: record. -/
import Derived.Test.YtonhhbebpcaaeaaRdA
import Derived.Test.YtonhhbebpcaaeaaDecC
namespace Go.Proofs.Ytonhhbebpcaaeaa
open Go.RowKit

def RecRel (xs : List UInt8) (er : Nat) (r : Rec) (ys : List UInt8) : Prop :=
  match rdRec xs with
  | .error e => er = e ∧ e ≠ 0
  | .ok (r', ys') => er = 0 ∧ r = r' ∧ ys = ys'
def RRecPost (w : World) (R : Nat) (xs : List UInt8) (e : Ending) (w' : World) : Prop :=
  w.grownBy w' (some R) ∧ ∃ (r : Rec) (ys : List UInt8) (er : Nat), e = .returned (vRec r) ∧ Rrd w' R ys er ∧ RecRel xs er r ys

theorem textRel_zero {most : Nat} {xs : List UInt8} {s : ByteArray} {er : Nat} {ys : List UInt8} (h : TextRel most 0 xs s er ys) : (∃ e, rdText most xs = .error e ∧ er = e) ∨ (rdText most xs = .ok (s, ys) ∧ er = 0) := by
  unfold TextRel at h
  rw [if_neg (by simp)] at h
  cases hq : rdText most xs with
  | error e => rw [hq] at h; exact .inl ⟨e, rfl, h⟩
  | ok p =>
    obtain ⟨s', ys'⟩ := p
    rw [hq] at h
    obtain ⟨h1, rfl, rfl⟩ := h
    exact .inr ⟨rfl, h1⟩
theorem rdText_ne {most : Nat} {xs : List UInt8} {e : Nat} (h : rdText most xs = .error e) : e ≠ 0 := by
  rw [rdText_var] at h
  split at h
  · rename_i h0; injection h with h; rw [← h]; exact h0
  · split at h
    · injection h with h; omega
    · split at h
      · injection h with h; omega
      · cases h
theorem textRel_ne {most why : Nat} (hw : why ≠ 0) {xs : List UInt8} {s : ByteArray} {er : Nat} {ys : List UInt8} (h : TextRel most why xs s er ys) : er = why := by
  unfold TextRel at h
  rwa [if_pos hw] at h
/-- The chain of a record's parts. -/
theorem recRel_chain {x : UInt8} {ys y1 y2 y3 : List UInt8} {v e0 e1 e2 e3 k : Nat} {s2 s3 : ByteArray} (hk : x.toNat = k) (hk2 : ¬ 2 < k)
    (h0 : (readVar ys).2.2 = e0) (hv : e0 = 0 → v = (readVar ys).1 ∧ y1 = ys.drop (readVar ys).2.1) (h1 : e1 = if e0 ≠ 0 then e0 else if 4294967295 < v then 3 else 0)
    (h2 : TextRel 1024 e1 y1 s2 e2 y2) (h3 : if k = 0 then e3 = e2 ∧ s3 = ⟨#[]⟩ ∧ y3 = y2 else TextRel (if k = 1 then 16384 else 1024) e2 y2 s3 e3 y3) :
    RecRel (x :: ys) e3 ⟨v, (k : Nat), s2, s3⟩ y3 ∧ (e3 = 0 → v ≤ 4294967295) := by
  have hrec : rdRec (x :: ys) = match rdVar 4294967295 ys with
      | .error e => .error e
      | .ok (f, zs) => match rdText 1024 zs with
        | .error e => .error e
        | .ok (key, us) => if k = 0 then .ok (⟨f, 0, key, ⟨#[]⟩⟩, us) else match rdText (if k = 1 then 16384 else 1024) us with
          | .error e => .error e
          | .ok (val, vs) => .ok (⟨f, (k : Nat), key, val⟩, vs) := by
    subst hk
    unfold rdRec
    simp only
    rw [if_neg hk2]
    cases rdVar 4294967295 ys with
    | error e => rfl
    | ok p => rfl
  have bad : ∀ e, e ≠ 0 → e1 = e → rdVar 4294967295 ys = .error e → RecRel (x :: ys) e3 ⟨v, (k : Nat), s2, s3⟩ y3 ∧ (e3 = 0 → v ≤ 4294967295) := by
    intro e hne he hr
    have g2 : e2 = e := by rw [← he]; exact textRel_ne (by omega) h2
    have g3 : e3 = e := by
      split at h3
      · rw [h3.1, g2]
      · rw [← g2]; exact textRel_ne (by omega) h3
    unfold RecRel
    rw [hrec, hr]
    exact ⟨⟨g3, hne⟩, fun h => absurd h (by omega)⟩
  by_cases he0 : e0 = 0
  · obtain ⟨hv1, hv2⟩ := hv he0
    rw [if_neg (by omega)] at h1
    by_cases hb : 4294967295 < v
    · rw [if_pos hb] at h1
      exact bad 3 (by omega) h1 (by unfold rdVar; rw [if_neg (by omega), if_pos (by omega)])
    · rw [if_neg hb] at h1
      subst h1
      have hr : rdVar 4294967295 ys = .ok (v, y1) := by unfold rdVar; rw [if_neg (by omega), if_neg (by omega), ← hv1, ← hv2]
      rw [hr] at hrec
      simp only at hrec
      refine ⟨?_, fun _ => by omega⟩
      unfold RecRel
      rcases textRel_zero h2 with ⟨e, g1, g2⟩ | ⟨g1, g2⟩
      · have hne := rdText_ne g1
        rw [hrec, g1]
        refine ⟨?_, hne⟩
        split at h3
        · rw [h3.1, g2]
        · rw [← g2]; exact textRel_ne (by omega) h3
      · subst g2
        rw [hrec, g1]
        simp only
        by_cases hk0 : k = 0
        · rw [if_pos hk0] at h3 ⊢
          obtain ⟨rfl, rfl, rfl⟩ := h3
          subst hk0
          exact ⟨rfl, rfl, rfl⟩
        · rw [if_neg hk0] at h3 ⊢
          rcases textRel_zero h3 with ⟨e, g3, g4⟩ | ⟨g3, g4⟩
          · rw [g3]
            exact ⟨g4, rdText_ne g3⟩
          · rw [g3]
            exact ⟨g4, rfl, rfl⟩
  · rw [if_pos he0] at h1
    exact bad e0 he0 h1 (by unfold rdVar; rw [if_pos (by omega), h0])

theorem Rrd.cells {w : World} {R : Nat} {xs : List UInt8} {e : Nat} (h : Rrd w R xs e) : ∃ A n c, w.cell? ⟨R, 0, none⟩ = some (.slice A n c) ∧ w.cell? ⟨R, 1, none⟩ = some (.int .i64 (e : Nat)) ∧ w.frozen? ⟨R, 0, none⟩ = false ∧ w.frozen? ⟨R, 1, none⟩ = false ∧ Bsl w R A n c xs := by
  obtain ⟨A, n, c, hB, hb⟩ := h
  exact ⟨A, n, c, hB.cell 0, hB.cell 1, hB.frozen 0, hB.frozen 1, hb⟩
theorem rec_rrd {w : World} {R Y : Nat} {xs : List UInt8} {e : Nat} {a b c d : Value} (h : Rrd w R xs e) (hY : R < Y) :
    Rrd ((((w.setCell ⟨Y, 0, none⟩ a).setCell ⟨Y, 1, none⟩ b).setCell ⟨Y, 2, none⟩ c).setCell ⟨Y, 3, none⟩ d) R xs e := (((h.far hY a).far hY b).far hY c).far hY d

theorem RecRel.trim {xs : List UInt8} {e v : Nat} {k : Int} {s2 s3 : ByteArray} {ys : List UInt8} (h : RecRel xs e ⟨v, k, s2, s3⟩ ys) (hv : e = 0 → v ≤ 4294967295) : RecRel xs e ⟨v % 4294967296, k, s2, s3⟩ ys := by
  unfold RecRel at h ⊢
  cases hq : rdRec xs with
  | error e => rw [hq] at h; exact h
  | ok p =>
    rw [hq] at h
    obtain ⟨h1, h2, h3⟩ := h
    have := hv h1
    refine ⟨h1, ?_, h3⟩
    rw [Nat.mod_eq_of_lt (by omega)]
    exact h2

set_option maxRecDepth 100000 in
set_option maxHeartbeats 1000000 in
theorem refRecord_empty (R : Nat) (w : World) (h : Rrd w R [] 0) :
    Calls Try.prog 64 #[.pointer (some ⟨R, 0, none⟩)] w (RRecPost w R []) := by
  have hR := h.lt
  obtain ⟨A, n, c, c0, c1, z0, z1, hb⟩ := h.cells
  have hl := hb.len
  simp only [List.length_nil] at hl
  subst hl
  have hW := (h.why 4).alloc (.cells rZ 44)
  have hY := Blk.new (w.setCell ⟨R, 1, none⟩ (.int .i64 (4 : Nat))) 44 rZ
  rw [show (w.setCell ⟨R, 1, none⟩ (.int .i64 (4 : Nat))).heap.size = w.heap.size by simp] at hY
  have hg : w.grownBy ((w.setCell ⟨R, 1, none⟩ (.int .i64 (4 : Nat))).alloc (.cells rZ 44)) (some R) := grown_alloc (grown_at (grown_refl _ _)) _
  clear h hb
  go_enter Try.func64, Try.ntmps64
  go_wp2
  refine bodyPost_ret (results_cell_row rfl _ _ w.heap.size 44 _ (0, 0) _ rfl hY Try.underlying44 rfl rec_size) rfl ⟨hg, ⟨0, 0, ⟨#[]⟩, ⟨#[]⟩⟩, [], 4, rfl, hW, ?_⟩
  exact ⟨rfl, by omega⟩

set_option maxRecDepth 100000 in
set_option maxHeartbeats 2000000 in
theorem refRecord_some (R : Nat) (x : UInt8) (ys : List UInt8) (w : World) (h : Rrd w R (x :: ys) 0) :
    Calls Try.prog 64 #[.pointer (some ⟨R, 0, none⟩)] w (RRecPost w R (x :: ys)) := by
  have hR := h.lt
  have hx := x.toNat_lt
  obtain ⟨A, n, c, hB, hb⟩ := h
  have hl := hb.len
  have hcap := hb.cap
  have hbig := hb.big
  unfold maxLen at hbig
  obtain ⟨g, o, rfl, hg, hcell⟩ := hb.at_ (k := 0) (by rw [← hl]; simp)
  simp only [List.getD_cons_zero, Nat.add_zero] at hcell
  have hd : ((n : Int) == 0) = false := by rw [← hl]; simp; omega
  have hn1 : 1 ≤ n := by rw [← hl]; simp
  have hgw : g < w.heap.size := by omega
  obtain ⟨k, hk⟩ : ∃ k, x.toNat = k := ⟨_, rfl⟩
  rw [hk] at hcell hx
  have Hk := hide hk
  clear hk
  have h1 := hb.cut (k := 1) hn1
  have h0 := fun hk => hb.cut0 (k := 1) hk hn1
  simp only [List.drop_succ_cons, List.drop_zero] at h1 h0
  have c0 := hB.cell 0
  have c1 := hB.cell 1
  have z0 := hB.frozen 0
  have z1 := hB.frozen 1
  simp only [List.getElem?_toArray, List.getElem?_cons_succ, List.getElem?_cons_zero] at c0 c1
  by_cases hk2 : 2 < k
  · have d : decide ((k : Int) > 2) = true := by simp; omega
    have hfin : Hid (∀ A' n' c', Bsl w R A' n' c' ys → Blk ((((w.setCell ⟨R, 0, none⟩ (.slice A' n' c')).setCell ⟨R, 1, none⟩ (.int .i64 (3 : Nat))).alloc (.cells #[.int .u32 0, .int .i64 k, .string ⟨#[]⟩, .string ⟨#[]⟩] 44)).alloc (.cells #[.int .u32 0, .int .i64 k, .string ⟨#[]⟩, .string ⟨#[]⟩] 44)) w.heap.size 44 #[.int .u32 0, .int .i64 k, .string ⟨#[]⟩, .string ⟨#[]⟩] ∧ w.grownBy ((((w.setCell ⟨R, 0, none⟩ (.slice A' n' c')).setCell ⟨R, 1, none⟩ (.int .i64 (3 : Nat))).alloc (.cells #[.int .u32 0, .int .i64 k, .string ⟨#[]⟩, .string ⟨#[]⟩] 44)).alloc (.cells #[.int .u32 0, .int .i64 k, .string ⟨#[]⟩, .string ⟨#[]⟩] 44)) (some R) ∧ Rrd ((((w.setCell ⟨R, 0, none⟩ (.slice A' n' c')).setCell ⟨R, 1, none⟩ (.int .i64 (3 : Nat))).alloc (.cells #[.int .u32 0, .int .i64 k, .string ⟨#[]⟩, .string ⟨#[]⟩] 44)).alloc (.cells #[.int .u32 0, .int .i64 k, .string ⟨#[]⟩, .string ⟨#[]⟩] 44)) R ys 3) := by
      intro A' n' c' hb'
      refine ⟨?_, ?_, ?_⟩
      · have := Blk.new ((w.setCell ⟨R, 0, none⟩ (.slice A' n' c')).setCell ⟨R, 1, none⟩ (.int .i64 (3 : Nat))) 44 #[.int .u32 0, .int .i64 k, .string ⟨#[]⟩, .string ⟨#[]⟩]
        rw [show ((w.setCell ⟨R, 0, none⟩ (.slice A' n' c')).setCell ⟨R, 1, none⟩ (.int .i64 (3 : Nat))).heap.size = w.heap.size by simp] at this
        exact this.alloc _
      · exact grown_alloc (grown_alloc (grown_at (grown_at (grown_refl _ _))) _) _
      · exact (((Rrd.put hB hb').why 3).alloc _).alloc _
    have hrel : Hid (RecRel (x :: ys) 3 ⟨0, k, ⟨#[]⟩, ⟨#[]⟩⟩ ys) := by
      unfold Hid RecRel rdRec
      simp only
      rw [if_pos (by rw [Hk.out]; exact hk2)]
      exact ⟨rfl, by omega⟩
    clear hb
    by_cases hc1 : c = 1
    · subst hc1
      obtain rfl : n = 1 := by omega
      have H0 := hide (h0 rfl)
      clear h0 h1 hB
      go_enter Try.func64, Try.ntmps64
      go_wp2
      have f := hfin.out _ _ _ H0.out
      exact bodyPost_ret (results_cell_row rfl _ _ w.heap.size 44 _ (0, 0) _ rfl f.1 Try.underlying44 rfl rec_size) rfl ⟨f.2.1, ⟨0, k, ⟨#[]⟩, ⟨#[]⟩⟩, ys, 3, rfl, f.2.2, hrel.out⟩
    · have H0 := hide h1
      clear h0 h1 hB
      go_enter Try.func64, Try.ntmps64
      go_wp2
      have f := hfin.out _ _ _ H0.out
      exact bodyPost_ret (results_cell_row rfl _ _ w.heap.size 44 _ (0, 0) _ rfl f.1 Try.underlying44 rfl rec_size) rfl ⟨f.2.1, ⟨0, k, ⟨#[]⟩, ⟨#[]⟩⟩, ys, 3, rfl, f.2.2, hrel.out⟩
  · have d : decide ((k : Int) > 2) = false := by simp; omega
    have hfin : Hid (∀ A' n' c', Bsl w R A' n' c' ys → Blk (((w.setCell ⟨R, 0, none⟩ (.slice A' n' c')).alloc (.cells rZ 44)).alloc (.cells #[.int .u32 0, .int .i64 k, .string ⟨#[]⟩, .string ⟨#[]⟩] 44)) w.heap.size 44 rZ ∧ Blk (((w.setCell ⟨R, 0, none⟩ (.slice A' n' c')).alloc (.cells rZ 44)).alloc (.cells #[.int .u32 0, .int .i64 k, .string ⟨#[]⟩, .string ⟨#[]⟩] 44)) (w.heap.size + 1) 44 #[.int .u32 0, .int .i64 k, .string ⟨#[]⟩, .string ⟨#[]⟩] ∧ w.grownBy (((w.setCell ⟨R, 0, none⟩ (.slice A' n' c')).alloc (.cells rZ 44)).alloc (.cells #[.int .u32 0, .int .i64 k, .string ⟨#[]⟩, .string ⟨#[]⟩] 44)) (some R) ∧ Rrd (((w.setCell ⟨R, 0, none⟩ (.slice A' n' c')).alloc (.cells rZ 44)).alloc (.cells #[.int .u32 0, .int .i64 k, .string ⟨#[]⟩, .string ⟨#[]⟩] 44)) R ys 0) := by
      intro A' n' c' hb'
      refine ⟨?_, ?_, ?_, ?_⟩
      · have := Blk.new (w.setCell ⟨R, 0, none⟩ (.slice A' n' c')) 44 rZ
        rw [show (w.setCell ⟨R, 0, none⟩ (.slice A' n' c')).heap.size = w.heap.size by simp] at this
        exact this.alloc _
      · have := Blk.new ((w.setCell ⟨R, 0, none⟩ (.slice A' n' c')).alloc (.cells rZ 44)) 44 #[.int .u32 0, .int .i64 k, .string ⟨#[]⟩, .string ⟨#[]⟩]
        rwa [show ((w.setCell ⟨R, 0, none⟩ (.slice A' n' c')).alloc (.cells rZ 44)).heap.size = w.heap.size + 1 by simp] at this
      · exact grown_alloc (grown_alloc (grown_at (grown_refl _ _)) _) _
      · exact ((Rrd.put hB hb').alloc _).alloc _
    have hmost := fun w => most_w (k : Int) w
    obtain ⟨M, hM⟩ : ∃ M, mostOf (k : Int) 9223372036854775807 = M := ⟨_, rfl⟩
    have hM2 : Hid (k ≠ 0 → M = if k = 1 then 16384 else 1024) := fun hk0 => by
      rw [← hM]
      unfold mostOf
      rcases (show k = 1 ∨ k = 2 by omega) with rfl | rfl <;> rfl
    have hM3 : k ≠ 0 → M ≤ 16384 := fun hk0 => by rw [hM2 hk0]; split <;> omega
    rw [hM] at hmost
    clear hM hb
    by_cases hc1 : c = 1
    · subst hc1
      obtain rfl : n = 1 := by omega
      have H0 := hide (h0 rfl)
      clear h0 h1 hB
      go_enter Try.func64, Try.ntmps64
      go_wp2_with fail
      have f := hfin.out _ _ _ H0.out
      go_at_call 104
      refine (refVar_rd R ys _ f.2.2.2).mono ?_
      rintro e w1 ⟨hg1, v, y1, rfl, hlt, hR1, hvy⟩
      have hY1 := f.1.grown hg1 (by simp; omega)
      have hX1 := f.2.1.grown hg1 (by simp; omega)
      have hg1' := grown_trans f.2.2.1 hg1
      clear f hg1 hfin H0
      obtain ⟨e0, he0⟩ : ∃ e0, (readVar ys).2.2 = e0 := ⟨_, rfl⟩
      rw [he0] at hR1 hvy
      have He0 := hide he0
      have Hvy := hide hvy
      clear he0 hvy
      obtain ⟨A1, n1, c1', q0, q1, qz0, qz1, hb1⟩ := hR1.cells
      obtain ⟨f, hf⟩ : ∃ f, v % 4294967296 = f := ⟨_, rfl⟩
      have hm : (v : Int) % 4294967296 = (f : Int) := by omega
      have Hf := hide hf
      clear hf
      have x0 := hX1.cell 0
      have xz0 := hX1.frozen 0
      simp only [List.getElem?_toArray, List.getElem?_cons_zero] at x0
      have key : ∃ e1, e1 = if e0 ≠ 0 then e0 else if 4294967295 < v then 3 else 0 := ⟨_, rfl⟩
      by_cases he : e0 = 0
      · subst he
        by_cases hv : 4294967295 < v
        · have d1 : decide ((v : Int) ≥ 4294967296) = true := by simp; omega
          have hR2 := hR1.why 3
          have hX2 := hX1.far (p := ⟨R, 1, none⟩) (by simp; omega) (.int .i64 (3 : Nat))
          have hY2 := hY1.far (p := ⟨R, 1, none⟩) (by simp; omega) (.int .i64 (3 : Nat))
          have hg2 : w.grownBy (w1.setCell ⟨R, 1, none⟩ (.int .i64 (3 : Nat))) (some R) := grown_at hg1'
          have he1 : Hid (3 = if (0 : Nat) ≠ 0 then 0 else if 4294967295 < v then 3 else 0) := by unfold Hid; rw [if_neg (by simp), if_pos hv]
          clear key
          go_wp2_with fail
          have hX3 := hX2.set 0 (.int .u32 (f : Nat))
          simp only [List.setIfInBounds_toArray, List.set_cons_zero] at hX3
          have hY3 := hY2.far (p := ⟨w.heap.size + 1, 0, none⟩) (by simp) (.int .u32 (f : Nat))
          have hR3 := hR2.far (X := w.heap.size + 1) (i := 0) (by omega) (.int .u32 (f : Nat))
          have hg3 := grown_new (X := w.heap.size + 1) (i := 0) (v := .int .u32 (f : Nat)) hg2 (by omega)
          clear hX2 hY2 hR2 hg2 hX1 hY1 hR1 hg1' q0 q1 qz0 qz1 hb1 x0 xz0
          go_at_call 105
          refine (refText_any R 1024 3 (by omega) y1 _ hR3).mono ?_
          rintro e w4 ⟨hg4, s2, y2, e2, rfl, hR4, ht2⟩
          have hX4 := hX3.grown hg4 (by simp; omega)
          have hY4 := hY3.grown hg4 (by simp; omega)
          have hg5 := grown_trans hg3 hg4
          have Ht2 := hide ht2
          clear hg3 hg4 hX3 hY3 hR3 ht2
          have x1 := hX4.cell 1
          have x2 := hX4.cell 2
          have xz2 := hX4.frozen 2
          simp only [List.getElem?_toArray, List.getElem?_cons_zero, List.getElem?_cons_succ] at x1 x2
          have hX5 := hX4.set 2 (.string s2)
          simp only [List.setIfInBounds_toArray, List.set_cons_zero, List.set_cons_succ] at hX5
          have hY5 := hY4.far (p := ⟨w.heap.size + 1, 2, none⟩) (by simp) (.string s2)
          have hR5 := hR4.far (X := w.heap.size + 1) (i := 2) (by omega) (.string s2)
          have hg6 := grown_new (X := w.heap.size + 1) (i := 2) (v := .string s2) hg5 (by omega)
          by_cases hk0 : k = 0
          · subst hk0
            have v0 := hY5.cell 0
            have v1 := hY5.cell 1
            have v2 := hY5.cell 2
            have v3 := hY5.cell 3
            have u0 := hY5.frozen 0
            have u1 := hY5.frozen 1
            have u2 := hY5.frozen 2
            have u3 := hY5.frozen 3
            have x0 := hX5.cell 0
            have x1' := hX5.cell 1
            have x2' := hX5.cell 2
            have x3 := hX5.cell 3
            simp only [List.getElem?_toArray, List.getElem?_cons_zero, List.getElem?_cons_succ] at v0 v1 v2 v3 x0 x1' x2' x3
            go_wp2
            have hc := recRel_chain (k := 0) (e3 := e2) (s3 := ⟨#[]⟩) (y3 := y2) Hk.out hk2 He0.out (fun h => Hvy.out (by first | trivial | exact h)) he1.out Ht2.out (by rw [if_pos rfl]; exact ⟨rfl, rfl, rfl⟩)
            refine bodyPost_ret (results_cell_row rfl _ _ w.heap.size 44 _ (0, 0) _ rfl (rec_blk hY5) Try.underlying44 rfl rec_size) rfl ⟨rec_grown hg6 (Nat.le_refl _), ⟨f, 0, s2, ⟨#[]⟩⟩, y2, e2, rfl, rec_rrd hR5 hR, ?_⟩
            rw [← Hf.out]
            exact hc.1.trim hc.2
          · have d3 : ((k : Int) != 0) = true := by simp; omega
            have hM4 := hM3 hk0
            have x1' := hX5.cell 1
            simp only [List.getElem?_toArray, List.getElem?_cons_zero, List.getElem?_cons_succ] at x1'
            go_wp2_with (go_at_call 54; refine (hmost _).mono ?_; rintro e w6 ⟨rfl, hw6⟩; subst hw6)
            go_at_call 105
            refine (refText_any R M e2 hM4 y2 _ hR5).mono ?_
            rintro e w7 ⟨hg7, s3, y3, e3, rfl, hR7, ht3⟩
            have hX7 := hX5.grown hg7 (by simp; omega)
            have hY7 := hY5.grown hg7 (by simp; omega)
            have hg8 := grown_trans hg6 hg7
            have Ht3 := hide ht3
            clear hg5 hg6 hg7 hX4 hX5 hY4 hY5 hR4 hR5 ht3 x1 x2 xz2 x1'
            have x3 := hX7.cell 3
            have xz3 := hX7.frozen 3
            simp only [List.getElem?_toArray, List.getElem?_cons_zero, List.getElem?_cons_succ] at x3
            have hX8 := hX7.set 3 (.string s3)
            simp only [List.setIfInBounds_toArray, List.set_cons_zero, List.set_cons_succ] at hX8
            have hY8 := hY7.far (p := ⟨w.heap.size + 1, 3, none⟩) (by simp) (.string s3)
            have hR8 := hR7.far (X := w.heap.size + 1) (i := 3) (by omega) (.string s3)
            have hg9 := grown_new (X := w.heap.size + 1) (i := 3) (v := .string s3) hg8 (by omega)
            have v0 := hY8.cell 0
            have v1 := hY8.cell 1
            have v2 := hY8.cell 2
            have v3 := hY8.cell 3
            have u0 := hY8.frozen 0
            have u1 := hY8.frozen 1
            have u2 := hY8.frozen 2
            have u3 := hY8.frozen 3
            have w0 := hX8.cell 0
            have w1' := hX8.cell 1
            have w2' := hX8.cell 2
            have w3' := hX8.cell 3
            simp only [List.getElem?_toArray, List.getElem?_cons_zero, List.getElem?_cons_succ] at v0 v1 v2 v3 w0 w1' w2' w3'
            go_wp2
            have hc := recRel_chain (k := k) (e3 := e3) (s3 := s3) (y3 := y3) Hk.out hk2 He0.out (fun h => Hvy.out (by first | trivial | exact h)) he1.out Ht2.out (by rw [if_neg hk0, ← hM2.out hk0]; exact Ht3.out)
            refine bodyPost_ret (results_cell_row rfl _ _ w.heap.size 44 _ (0, 0) _ rfl (rec_blk hY8) Try.underlying44 rfl rec_size) rfl ⟨rec_grown hg9 (Nat.le_refl _), ⟨f, k, s2, s3⟩, y3, e3, rfl, rec_rrd hR8 hR, ?_⟩
            rw [← Hf.out]
            exact hc.1.trim hc.2
        · have d1 : decide ((v : Int) ≥ 4294967296) = false := by simp; omega
          obtain rfl : f = v := by have := Hf.out; omega
          clear hm
          have hR2 := hR1
          have hX2 := hX1
          have hY2 := hY1
          have hg2 := hg1'
          have he1 : Hid (0 = if (0 : Nat) ≠ 0 then 0 else if 4294967295 < f then 3 else 0) := by unfold Hid; rw [if_neg (by simp), if_neg hv]
          clear key
          go_wp2_with fail
          have hX3 := hX2.set 0 (.int .u32 (f : Nat))
          simp only [List.setIfInBounds_toArray, List.set_cons_zero] at hX3
          have hY3 := hY2.far (p := ⟨w.heap.size + 1, 0, none⟩) (by simp) (.int .u32 (f : Nat))
          have hR3 := hR2.far (X := w.heap.size + 1) (i := 0) (by omega) (.int .u32 (f : Nat))
          have hg3 := grown_new (X := w.heap.size + 1) (i := 0) (v := .int .u32 (f : Nat)) hg2 (by omega)
          clear hX2 hY2 hR2 hg2 hX1 hY1 hR1 hg1' q0 q1 qz0 qz1 hb1 x0 xz0
          go_at_call 105
          refine (refText_any R 1024 0 (by omega) y1 _ hR3).mono ?_
          rintro e w4 ⟨hg4, s2, y2, e2, rfl, hR4, ht2⟩
          have hX4 := hX3.grown hg4 (by simp; omega)
          have hY4 := hY3.grown hg4 (by simp; omega)
          have hg5 := grown_trans hg3 hg4
          have Ht2 := hide ht2
          clear hg3 hg4 hX3 hY3 hR3 ht2
          have x1 := hX4.cell 1
          have x2 := hX4.cell 2
          have xz2 := hX4.frozen 2
          simp only [List.getElem?_toArray, List.getElem?_cons_zero, List.getElem?_cons_succ] at x1 x2
          have hX5 := hX4.set 2 (.string s2)
          simp only [List.setIfInBounds_toArray, List.set_cons_zero, List.set_cons_succ] at hX5
          have hY5 := hY4.far (p := ⟨w.heap.size + 1, 2, none⟩) (by simp) (.string s2)
          have hR5 := hR4.far (X := w.heap.size + 1) (i := 2) (by omega) (.string s2)
          have hg6 := grown_new (X := w.heap.size + 1) (i := 2) (v := .string s2) hg5 (by omega)
          by_cases hk0 : k = 0
          · subst hk0
            have v0 := hY5.cell 0
            have v1 := hY5.cell 1
            have v2 := hY5.cell 2
            have v3 := hY5.cell 3
            have u0 := hY5.frozen 0
            have u1 := hY5.frozen 1
            have u2 := hY5.frozen 2
            have u3 := hY5.frozen 3
            have x0 := hX5.cell 0
            have x1' := hX5.cell 1
            have x2' := hX5.cell 2
            have x3 := hX5.cell 3
            simp only [List.getElem?_toArray, List.getElem?_cons_zero, List.getElem?_cons_succ] at v0 v1 v2 v3 x0 x1' x2' x3
            go_wp2
            have hc := recRel_chain (k := 0) (e3 := e2) (s3 := ⟨#[]⟩) (y3 := y2) Hk.out hk2 He0.out (fun h => Hvy.out (by first | trivial | exact h)) he1.out Ht2.out (by rw [if_pos rfl]; exact ⟨rfl, rfl, rfl⟩)
            refine bodyPost_ret (results_cell_row rfl _ _ w.heap.size 44 _ (0, 0) _ rfl (rec_blk hY5) Try.underlying44 rfl rec_size) rfl ⟨rec_grown hg6 (Nat.le_refl _), ⟨f, 0, s2, ⟨#[]⟩⟩, y2, e2, rfl, rec_rrd hR5 hR, ?_⟩
            rw [← Hf.out]
            exact hc.1.trim hc.2
          · have d3 : ((k : Int) != 0) = true := by simp; omega
            have hM4 := hM3 hk0
            have x1' := hX5.cell 1
            simp only [List.getElem?_toArray, List.getElem?_cons_zero, List.getElem?_cons_succ] at x1'
            go_wp2_with (go_at_call 54; refine (hmost _).mono ?_; rintro e w6 ⟨rfl, hw6⟩; subst hw6)
            go_at_call 105
            refine (refText_any R M e2 hM4 y2 _ hR5).mono ?_
            rintro e w7 ⟨hg7, s3, y3, e3, rfl, hR7, ht3⟩
            have hX7 := hX5.grown hg7 (by simp; omega)
            have hY7 := hY5.grown hg7 (by simp; omega)
            have hg8 := grown_trans hg6 hg7
            have Ht3 := hide ht3
            clear hg5 hg6 hg7 hX4 hX5 hY4 hY5 hR4 hR5 ht3 x1 x2 xz2 x1'
            have x3 := hX7.cell 3
            have xz3 := hX7.frozen 3
            simp only [List.getElem?_toArray, List.getElem?_cons_zero, List.getElem?_cons_succ] at x3
            have hX8 := hX7.set 3 (.string s3)
            simp only [List.setIfInBounds_toArray, List.set_cons_zero, List.set_cons_succ] at hX8
            have hY8 := hY7.far (p := ⟨w.heap.size + 1, 3, none⟩) (by simp) (.string s3)
            have hR8 := hR7.far (X := w.heap.size + 1) (i := 3) (by omega) (.string s3)
            have hg9 := grown_new (X := w.heap.size + 1) (i := 3) (v := .string s3) hg8 (by omega)
            have v0 := hY8.cell 0
            have v1 := hY8.cell 1
            have v2 := hY8.cell 2
            have v3 := hY8.cell 3
            have u0 := hY8.frozen 0
            have u1 := hY8.frozen 1
            have u2 := hY8.frozen 2
            have u3 := hY8.frozen 3
            have w0 := hX8.cell 0
            have w1' := hX8.cell 1
            have w2' := hX8.cell 2
            have w3' := hX8.cell 3
            simp only [List.getElem?_toArray, List.getElem?_cons_zero, List.getElem?_cons_succ] at v0 v1 v2 v3 w0 w1' w2' w3'
            go_wp2
            have hc := recRel_chain (k := k) (e3 := e3) (s3 := s3) (y3 := y3) Hk.out hk2 He0.out (fun h => Hvy.out (by first | trivial | exact h)) he1.out Ht2.out (by rw [if_neg hk0, ← hM2.out hk0]; exact Ht3.out)
            refine bodyPost_ret (results_cell_row rfl _ _ w.heap.size 44 _ (0, 0) _ rfl (rec_blk hY8) Try.underlying44 rfl rec_size) rfl ⟨rec_grown hg9 (Nat.le_refl _), ⟨f, k, s2, s3⟩, y3, e3, rfl, rec_rrd hR8 hR, ?_⟩
            rw [← Hf.out]
            exact hc.1.trim hc.2
      · have d1 : ((e0 : Int) == 0) = false := by simp; omega
        have hR2 := hR1
        have hX2 := hX1
        have hY2 := hY1
        have hg2 := hg1'
        have he1 : Hid (e0 = if e0 ≠ 0 then e0 else if 4294967295 < v then 3 else 0) := by unfold Hid; rw [if_pos he]
        clear key
        go_wp2_with fail
        have hX3 := hX2.set 0 (.int .u32 (f : Nat))
        simp only [List.setIfInBounds_toArray, List.set_cons_zero] at hX3
        have hY3 := hY2.far (p := ⟨w.heap.size + 1, 0, none⟩) (by simp) (.int .u32 (f : Nat))
        have hR3 := hR2.far (X := w.heap.size + 1) (i := 0) (by omega) (.int .u32 (f : Nat))
        have hg3 := grown_new (X := w.heap.size + 1) (i := 0) (v := .int .u32 (f : Nat)) hg2 (by omega)
        clear hX2 hY2 hR2 hg2 hX1 hY1 hR1 hg1' q0 q1 qz0 qz1 hb1 x0 xz0
        go_at_call 105
        refine (refText_any R 1024 e0 (by omega) y1 _ hR3).mono ?_
        rintro e w4 ⟨hg4, s2, y2, e2, rfl, hR4, ht2⟩
        have hX4 := hX3.grown hg4 (by simp; omega)
        have hY4 := hY3.grown hg4 (by simp; omega)
        have hg5 := grown_trans hg3 hg4
        have Ht2 := hide ht2
        clear hg3 hg4 hX3 hY3 hR3 ht2
        have x1 := hX4.cell 1
        have x2 := hX4.cell 2
        have xz2 := hX4.frozen 2
        simp only [List.getElem?_toArray, List.getElem?_cons_zero, List.getElem?_cons_succ] at x1 x2
        have hX5 := hX4.set 2 (.string s2)
        simp only [List.setIfInBounds_toArray, List.set_cons_zero, List.set_cons_succ] at hX5
        have hY5 := hY4.far (p := ⟨w.heap.size + 1, 2, none⟩) (by simp) (.string s2)
        have hR5 := hR4.far (X := w.heap.size + 1) (i := 2) (by omega) (.string s2)
        have hg6 := grown_new (X := w.heap.size + 1) (i := 2) (v := .string s2) hg5 (by omega)
        by_cases hk0 : k = 0
        · subst hk0
          have v0 := hY5.cell 0
          have v1 := hY5.cell 1
          have v2 := hY5.cell 2
          have v3 := hY5.cell 3
          have u0 := hY5.frozen 0
          have u1 := hY5.frozen 1
          have u2 := hY5.frozen 2
          have u3 := hY5.frozen 3
          have x0 := hX5.cell 0
          have x1' := hX5.cell 1
          have x2' := hX5.cell 2
          have x3 := hX5.cell 3
          simp only [List.getElem?_toArray, List.getElem?_cons_zero, List.getElem?_cons_succ] at v0 v1 v2 v3 x0 x1' x2' x3
          go_wp2
          have hc := recRel_chain (k := 0) (e3 := e2) (s3 := ⟨#[]⟩) (y3 := y2) Hk.out hk2 He0.out (fun h => Hvy.out (by first | trivial | exact h)) he1.out Ht2.out (by rw [if_pos rfl]; exact ⟨rfl, rfl, rfl⟩)
          refine bodyPost_ret (results_cell_row rfl _ _ w.heap.size 44 _ (0, 0) _ rfl (rec_blk hY5) Try.underlying44 rfl rec_size) rfl ⟨rec_grown hg6 (Nat.le_refl _), ⟨f, 0, s2, ⟨#[]⟩⟩, y2, e2, rfl, rec_rrd hR5 hR, ?_⟩
          rw [← Hf.out]
          exact hc.1.trim hc.2
        · have d3 : ((k : Int) != 0) = true := by simp; omega
          have hM4 := hM3 hk0
          have x1' := hX5.cell 1
          simp only [List.getElem?_toArray, List.getElem?_cons_zero, List.getElem?_cons_succ] at x1'
          go_wp2_with (go_at_call 54; refine (hmost _).mono ?_; rintro e w6 ⟨rfl, hw6⟩; subst hw6)
          go_at_call 105
          refine (refText_any R M e2 hM4 y2 _ hR5).mono ?_
          rintro e w7 ⟨hg7, s3, y3, e3, rfl, hR7, ht3⟩
          have hX7 := hX5.grown hg7 (by simp; omega)
          have hY7 := hY5.grown hg7 (by simp; omega)
          have hg8 := grown_trans hg6 hg7
          have Ht3 := hide ht3
          clear hg5 hg6 hg7 hX4 hX5 hY4 hY5 hR4 hR5 ht3 x1 x2 xz2 x1'
          have x3 := hX7.cell 3
          have xz3 := hX7.frozen 3
          simp only [List.getElem?_toArray, List.getElem?_cons_zero, List.getElem?_cons_succ] at x3
          have hX8 := hX7.set 3 (.string s3)
          simp only [List.setIfInBounds_toArray, List.set_cons_zero, List.set_cons_succ] at hX8
          have hY8 := hY7.far (p := ⟨w.heap.size + 1, 3, none⟩) (by simp) (.string s3)
          have hR8 := hR7.far (X := w.heap.size + 1) (i := 3) (by omega) (.string s3)
          have hg9 := grown_new (X := w.heap.size + 1) (i := 3) (v := .string s3) hg8 (by omega)
          have v0 := hY8.cell 0
          have v1 := hY8.cell 1
          have v2 := hY8.cell 2
          have v3 := hY8.cell 3
          have u0 := hY8.frozen 0
          have u1 := hY8.frozen 1
          have u2 := hY8.frozen 2
          have u3 := hY8.frozen 3
          have w0 := hX8.cell 0
          have w1' := hX8.cell 1
          have w2' := hX8.cell 2
          have w3' := hX8.cell 3
          simp only [List.getElem?_toArray, List.getElem?_cons_zero, List.getElem?_cons_succ] at v0 v1 v2 v3 w0 w1' w2' w3'
          go_wp2
          have hc := recRel_chain (k := k) (e3 := e3) (s3 := s3) (y3 := y3) Hk.out hk2 He0.out (fun h => Hvy.out (by first | trivial | exact h)) he1.out Ht2.out (by rw [if_neg hk0, ← hM2.out hk0]; exact Ht3.out)
          refine bodyPost_ret (results_cell_row rfl _ _ w.heap.size 44 _ (0, 0) _ rfl (rec_blk hY8) Try.underlying44 rfl rec_size) rfl ⟨rec_grown hg9 (Nat.le_refl _), ⟨f, k, s2, s3⟩, y3, e3, rfl, rec_rrd hR8 hR, ?_⟩
          rw [← Hf.out]
          exact hc.1.trim hc.2
    · have H0 := hide h1
      clear h0 h1 hB
      go_enter Try.func64, Try.ntmps64
      go_wp2_with fail
      have f := hfin.out _ _ _ H0.out
      go_at_call 104
      refine (refVar_rd R ys _ f.2.2.2).mono ?_
      rintro e w1 ⟨hg1, v, y1, rfl, hlt, hR1, hvy⟩
      have hY1 := f.1.grown hg1 (by simp; omega)
      have hX1 := f.2.1.grown hg1 (by simp; omega)
      have hg1' := grown_trans f.2.2.1 hg1
      clear f hg1 hfin H0
      obtain ⟨e0, he0⟩ : ∃ e0, (readVar ys).2.2 = e0 := ⟨_, rfl⟩
      rw [he0] at hR1 hvy
      have He0 := hide he0
      have Hvy := hide hvy
      clear he0 hvy
      obtain ⟨A1, n1, c1', q0, q1, qz0, qz1, hb1⟩ := hR1.cells
      obtain ⟨f, hf⟩ : ∃ f, v % 4294967296 = f := ⟨_, rfl⟩
      have hm : (v : Int) % 4294967296 = (f : Int) := by omega
      have Hf := hide hf
      clear hf
      have x0 := hX1.cell 0
      have xz0 := hX1.frozen 0
      simp only [List.getElem?_toArray, List.getElem?_cons_zero] at x0
      have key : ∃ e1, e1 = if e0 ≠ 0 then e0 else if 4294967295 < v then 3 else 0 := ⟨_, rfl⟩
      by_cases he : e0 = 0
      · subst he
        by_cases hv : 4294967295 < v
        · have d1 : decide ((v : Int) ≥ 4294967296) = true := by simp; omega
          have hR2 := hR1.why 3
          have hX2 := hX1.far (p := ⟨R, 1, none⟩) (by simp; omega) (.int .i64 (3 : Nat))
          have hY2 := hY1.far (p := ⟨R, 1, none⟩) (by simp; omega) (.int .i64 (3 : Nat))
          have hg2 : w.grownBy (w1.setCell ⟨R, 1, none⟩ (.int .i64 (3 : Nat))) (some R) := grown_at hg1'
          have he1 : Hid (3 = if (0 : Nat) ≠ 0 then 0 else if 4294967295 < v then 3 else 0) := by unfold Hid; rw [if_neg (by simp), if_pos hv]
          clear key
          go_wp2_with fail
          have hX3 := hX2.set 0 (.int .u32 (f : Nat))
          simp only [List.setIfInBounds_toArray, List.set_cons_zero] at hX3
          have hY3 := hY2.far (p := ⟨w.heap.size + 1, 0, none⟩) (by simp) (.int .u32 (f : Nat))
          have hR3 := hR2.far (X := w.heap.size + 1) (i := 0) (by omega) (.int .u32 (f : Nat))
          have hg3 := grown_new (X := w.heap.size + 1) (i := 0) (v := .int .u32 (f : Nat)) hg2 (by omega)
          clear hX2 hY2 hR2 hg2 hX1 hY1 hR1 hg1' q0 q1 qz0 qz1 hb1 x0 xz0
          go_at_call 105
          refine (refText_any R 1024 3 (by omega) y1 _ hR3).mono ?_
          rintro e w4 ⟨hg4, s2, y2, e2, rfl, hR4, ht2⟩
          have hX4 := hX3.grown hg4 (by simp; omega)
          have hY4 := hY3.grown hg4 (by simp; omega)
          have hg5 := grown_trans hg3 hg4
          have Ht2 := hide ht2
          clear hg3 hg4 hX3 hY3 hR3 ht2
          have x1 := hX4.cell 1
          have x2 := hX4.cell 2
          have xz2 := hX4.frozen 2
          simp only [List.getElem?_toArray, List.getElem?_cons_zero, List.getElem?_cons_succ] at x1 x2
          have hX5 := hX4.set 2 (.string s2)
          simp only [List.setIfInBounds_toArray, List.set_cons_zero, List.set_cons_succ] at hX5
          have hY5 := hY4.far (p := ⟨w.heap.size + 1, 2, none⟩) (by simp) (.string s2)
          have hR5 := hR4.far (X := w.heap.size + 1) (i := 2) (by omega) (.string s2)
          have hg6 := grown_new (X := w.heap.size + 1) (i := 2) (v := .string s2) hg5 (by omega)
          by_cases hk0 : k = 0
          · subst hk0
            have v0 := hY5.cell 0
            have v1 := hY5.cell 1
            have v2 := hY5.cell 2
            have v3 := hY5.cell 3
            have u0 := hY5.frozen 0
            have u1 := hY5.frozen 1
            have u2 := hY5.frozen 2
            have u3 := hY5.frozen 3
            have x0 := hX5.cell 0
            have x1' := hX5.cell 1
            have x2' := hX5.cell 2
            have x3 := hX5.cell 3
            simp only [List.getElem?_toArray, List.getElem?_cons_zero, List.getElem?_cons_succ] at v0 v1 v2 v3 x0 x1' x2' x3
            go_wp2
            have hc := recRel_chain (k := 0) (e3 := e2) (s3 := ⟨#[]⟩) (y3 := y2) Hk.out hk2 He0.out (fun h => Hvy.out (by first | trivial | exact h)) he1.out Ht2.out (by rw [if_pos rfl]; exact ⟨rfl, rfl, rfl⟩)
            refine bodyPost_ret (results_cell_row rfl _ _ w.heap.size 44 _ (0, 0) _ rfl (rec_blk hY5) Try.underlying44 rfl rec_size) rfl ⟨rec_grown hg6 (Nat.le_refl _), ⟨f, 0, s2, ⟨#[]⟩⟩, y2, e2, rfl, rec_rrd hR5 hR, ?_⟩
            rw [← Hf.out]
            exact hc.1.trim hc.2
          · have d3 : ((k : Int) != 0) = true := by simp; omega
            have hM4 := hM3 hk0
            have x1' := hX5.cell 1
            simp only [List.getElem?_toArray, List.getElem?_cons_zero, List.getElem?_cons_succ] at x1'
            go_wp2_with (go_at_call 54; refine (hmost _).mono ?_; rintro e w6 ⟨rfl, hw6⟩; subst hw6)
            go_at_call 105
            refine (refText_any R M e2 hM4 y2 _ hR5).mono ?_
            rintro e w7 ⟨hg7, s3, y3, e3, rfl, hR7, ht3⟩
            have hX7 := hX5.grown hg7 (by simp; omega)
            have hY7 := hY5.grown hg7 (by simp; omega)
            have hg8 := grown_trans hg6 hg7
            have Ht3 := hide ht3
            clear hg5 hg6 hg7 hX4 hX5 hY4 hY5 hR4 hR5 ht3 x1 x2 xz2 x1'
            have x3 := hX7.cell 3
            have xz3 := hX7.frozen 3
            simp only [List.getElem?_toArray, List.getElem?_cons_zero, List.getElem?_cons_succ] at x3
            have hX8 := hX7.set 3 (.string s3)
            simp only [List.setIfInBounds_toArray, List.set_cons_zero, List.set_cons_succ] at hX8
            have hY8 := hY7.far (p := ⟨w.heap.size + 1, 3, none⟩) (by simp) (.string s3)
            have hR8 := hR7.far (X := w.heap.size + 1) (i := 3) (by omega) (.string s3)
            have hg9 := grown_new (X := w.heap.size + 1) (i := 3) (v := .string s3) hg8 (by omega)
            have v0 := hY8.cell 0
            have v1 := hY8.cell 1
            have v2 := hY8.cell 2
            have v3 := hY8.cell 3
            have u0 := hY8.frozen 0
            have u1 := hY8.frozen 1
            have u2 := hY8.frozen 2
            have u3 := hY8.frozen 3
            have w0 := hX8.cell 0
            have w1' := hX8.cell 1
            have w2' := hX8.cell 2
            have w3' := hX8.cell 3
            simp only [List.getElem?_toArray, List.getElem?_cons_zero, List.getElem?_cons_succ] at v0 v1 v2 v3 w0 w1' w2' w3'
            go_wp2
            have hc := recRel_chain (k := k) (e3 := e3) (s3 := s3) (y3 := y3) Hk.out hk2 He0.out (fun h => Hvy.out (by first | trivial | exact h)) he1.out Ht2.out (by rw [if_neg hk0, ← hM2.out hk0]; exact Ht3.out)
            refine bodyPost_ret (results_cell_row rfl _ _ w.heap.size 44 _ (0, 0) _ rfl (rec_blk hY8) Try.underlying44 rfl rec_size) rfl ⟨rec_grown hg9 (Nat.le_refl _), ⟨f, k, s2, s3⟩, y3, e3, rfl, rec_rrd hR8 hR, ?_⟩
            rw [← Hf.out]
            exact hc.1.trim hc.2
        · have d1 : decide ((v : Int) ≥ 4294967296) = false := by simp; omega
          obtain rfl : f = v := by have := Hf.out; omega
          clear hm
          have hR2 := hR1
          have hX2 := hX1
          have hY2 := hY1
          have hg2 := hg1'
          have he1 : Hid (0 = if (0 : Nat) ≠ 0 then 0 else if 4294967295 < f then 3 else 0) := by unfold Hid; rw [if_neg (by simp), if_neg hv]
          clear key
          go_wp2_with fail
          have hX3 := hX2.set 0 (.int .u32 (f : Nat))
          simp only [List.setIfInBounds_toArray, List.set_cons_zero] at hX3
          have hY3 := hY2.far (p := ⟨w.heap.size + 1, 0, none⟩) (by simp) (.int .u32 (f : Nat))
          have hR3 := hR2.far (X := w.heap.size + 1) (i := 0) (by omega) (.int .u32 (f : Nat))
          have hg3 := grown_new (X := w.heap.size + 1) (i := 0) (v := .int .u32 (f : Nat)) hg2 (by omega)
          clear hX2 hY2 hR2 hg2 hX1 hY1 hR1 hg1' q0 q1 qz0 qz1 hb1 x0 xz0
          go_at_call 105
          refine (refText_any R 1024 0 (by omega) y1 _ hR3).mono ?_
          rintro e w4 ⟨hg4, s2, y2, e2, rfl, hR4, ht2⟩
          have hX4 := hX3.grown hg4 (by simp; omega)
          have hY4 := hY3.grown hg4 (by simp; omega)
          have hg5 := grown_trans hg3 hg4
          have Ht2 := hide ht2
          clear hg3 hg4 hX3 hY3 hR3 ht2
          have x1 := hX4.cell 1
          have x2 := hX4.cell 2
          have xz2 := hX4.frozen 2
          simp only [List.getElem?_toArray, List.getElem?_cons_zero, List.getElem?_cons_succ] at x1 x2
          have hX5 := hX4.set 2 (.string s2)
          simp only [List.setIfInBounds_toArray, List.set_cons_zero, List.set_cons_succ] at hX5
          have hY5 := hY4.far (p := ⟨w.heap.size + 1, 2, none⟩) (by simp) (.string s2)
          have hR5 := hR4.far (X := w.heap.size + 1) (i := 2) (by omega) (.string s2)
          have hg6 := grown_new (X := w.heap.size + 1) (i := 2) (v := .string s2) hg5 (by omega)
          by_cases hk0 : k = 0
          · subst hk0
            have v0 := hY5.cell 0
            have v1 := hY5.cell 1
            have v2 := hY5.cell 2
            have v3 := hY5.cell 3
            have u0 := hY5.frozen 0
            have u1 := hY5.frozen 1
            have u2 := hY5.frozen 2
            have u3 := hY5.frozen 3
            have x0 := hX5.cell 0
            have x1' := hX5.cell 1
            have x2' := hX5.cell 2
            have x3 := hX5.cell 3
            simp only [List.getElem?_toArray, List.getElem?_cons_zero, List.getElem?_cons_succ] at v0 v1 v2 v3 x0 x1' x2' x3
            go_wp2
            have hc := recRel_chain (k := 0) (e3 := e2) (s3 := ⟨#[]⟩) (y3 := y2) Hk.out hk2 He0.out (fun h => Hvy.out (by first | trivial | exact h)) he1.out Ht2.out (by rw [if_pos rfl]; exact ⟨rfl, rfl, rfl⟩)
            refine bodyPost_ret (results_cell_row rfl _ _ w.heap.size 44 _ (0, 0) _ rfl (rec_blk hY5) Try.underlying44 rfl rec_size) rfl ⟨rec_grown hg6 (Nat.le_refl _), ⟨f, 0, s2, ⟨#[]⟩⟩, y2, e2, rfl, rec_rrd hR5 hR, ?_⟩
            rw [← Hf.out]
            exact hc.1.trim hc.2
          · have d3 : ((k : Int) != 0) = true := by simp; omega
            have hM4 := hM3 hk0
            have x1' := hX5.cell 1
            simp only [List.getElem?_toArray, List.getElem?_cons_zero, List.getElem?_cons_succ] at x1'
            go_wp2_with (go_at_call 54; refine (hmost _).mono ?_; rintro e w6 ⟨rfl, hw6⟩; subst hw6)
            go_at_call 105
            refine (refText_any R M e2 hM4 y2 _ hR5).mono ?_
            rintro e w7 ⟨hg7, s3, y3, e3, rfl, hR7, ht3⟩
            have hX7 := hX5.grown hg7 (by simp; omega)
            have hY7 := hY5.grown hg7 (by simp; omega)
            have hg8 := grown_trans hg6 hg7
            have Ht3 := hide ht3
            clear hg5 hg6 hg7 hX4 hX5 hY4 hY5 hR4 hR5 ht3 x1 x2 xz2 x1'
            have x3 := hX7.cell 3
            have xz3 := hX7.frozen 3
            simp only [List.getElem?_toArray, List.getElem?_cons_zero, List.getElem?_cons_succ] at x3
            have hX8 := hX7.set 3 (.string s3)
            simp only [List.setIfInBounds_toArray, List.set_cons_zero, List.set_cons_succ] at hX8
            have hY8 := hY7.far (p := ⟨w.heap.size + 1, 3, none⟩) (by simp) (.string s3)
            have hR8 := hR7.far (X := w.heap.size + 1) (i := 3) (by omega) (.string s3)
            have hg9 := grown_new (X := w.heap.size + 1) (i := 3) (v := .string s3) hg8 (by omega)
            have v0 := hY8.cell 0
            have v1 := hY8.cell 1
            have v2 := hY8.cell 2
            have v3 := hY8.cell 3
            have u0 := hY8.frozen 0
            have u1 := hY8.frozen 1
            have u2 := hY8.frozen 2
            have u3 := hY8.frozen 3
            have w0 := hX8.cell 0
            have w1' := hX8.cell 1
            have w2' := hX8.cell 2
            have w3' := hX8.cell 3
            simp only [List.getElem?_toArray, List.getElem?_cons_zero, List.getElem?_cons_succ] at v0 v1 v2 v3 w0 w1' w2' w3'
            go_wp2
            have hc := recRel_chain (k := k) (e3 := e3) (s3 := s3) (y3 := y3) Hk.out hk2 He0.out (fun h => Hvy.out (by first | trivial | exact h)) he1.out Ht2.out (by rw [if_neg hk0, ← hM2.out hk0]; exact Ht3.out)
            refine bodyPost_ret (results_cell_row rfl _ _ w.heap.size 44 _ (0, 0) _ rfl (rec_blk hY8) Try.underlying44 rfl rec_size) rfl ⟨rec_grown hg9 (Nat.le_refl _), ⟨f, k, s2, s3⟩, y3, e3, rfl, rec_rrd hR8 hR, ?_⟩
            rw [← Hf.out]
            exact hc.1.trim hc.2
      · have d1 : ((e0 : Int) == 0) = false := by simp; omega
        have hR2 := hR1
        have hX2 := hX1
        have hY2 := hY1
        have hg2 := hg1'
        have he1 : Hid (e0 = if e0 ≠ 0 then e0 else if 4294967295 < v then 3 else 0) := by unfold Hid; rw [if_pos he]
        clear key
        go_wp2_with fail
        have hX3 := hX2.set 0 (.int .u32 (f : Nat))
        simp only [List.setIfInBounds_toArray, List.set_cons_zero] at hX3
        have hY3 := hY2.far (p := ⟨w.heap.size + 1, 0, none⟩) (by simp) (.int .u32 (f : Nat))
        have hR3 := hR2.far (X := w.heap.size + 1) (i := 0) (by omega) (.int .u32 (f : Nat))
        have hg3 := grown_new (X := w.heap.size + 1) (i := 0) (v := .int .u32 (f : Nat)) hg2 (by omega)
        clear hX2 hY2 hR2 hg2 hX1 hY1 hR1 hg1' q0 q1 qz0 qz1 hb1 x0 xz0
        go_at_call 105
        refine (refText_any R 1024 e0 (by omega) y1 _ hR3).mono ?_
        rintro e w4 ⟨hg4, s2, y2, e2, rfl, hR4, ht2⟩
        have hX4 := hX3.grown hg4 (by simp; omega)
        have hY4 := hY3.grown hg4 (by simp; omega)
        have hg5 := grown_trans hg3 hg4
        have Ht2 := hide ht2
        clear hg3 hg4 hX3 hY3 hR3 ht2
        have x1 := hX4.cell 1
        have x2 := hX4.cell 2
        have xz2 := hX4.frozen 2
        simp only [List.getElem?_toArray, List.getElem?_cons_zero, List.getElem?_cons_succ] at x1 x2
        have hX5 := hX4.set 2 (.string s2)
        simp only [List.setIfInBounds_toArray, List.set_cons_zero, List.set_cons_succ] at hX5
        have hY5 := hY4.far (p := ⟨w.heap.size + 1, 2, none⟩) (by simp) (.string s2)
        have hR5 := hR4.far (X := w.heap.size + 1) (i := 2) (by omega) (.string s2)
        have hg6 := grown_new (X := w.heap.size + 1) (i := 2) (v := .string s2) hg5 (by omega)
        by_cases hk0 : k = 0
        · subst hk0
          have v0 := hY5.cell 0
          have v1 := hY5.cell 1
          have v2 := hY5.cell 2
          have v3 := hY5.cell 3
          have u0 := hY5.frozen 0
          have u1 := hY5.frozen 1
          have u2 := hY5.frozen 2
          have u3 := hY5.frozen 3
          have x0 := hX5.cell 0
          have x1' := hX5.cell 1
          have x2' := hX5.cell 2
          have x3 := hX5.cell 3
          simp only [List.getElem?_toArray, List.getElem?_cons_zero, List.getElem?_cons_succ] at v0 v1 v2 v3 x0 x1' x2' x3
          go_wp2
          have hc := recRel_chain (k := 0) (e3 := e2) (s3 := ⟨#[]⟩) (y3 := y2) Hk.out hk2 He0.out (fun h => Hvy.out (by first | trivial | exact h)) he1.out Ht2.out (by rw [if_pos rfl]; exact ⟨rfl, rfl, rfl⟩)
          refine bodyPost_ret (results_cell_row rfl _ _ w.heap.size 44 _ (0, 0) _ rfl (rec_blk hY5) Try.underlying44 rfl rec_size) rfl ⟨rec_grown hg6 (Nat.le_refl _), ⟨f, 0, s2, ⟨#[]⟩⟩, y2, e2, rfl, rec_rrd hR5 hR, ?_⟩
          rw [← Hf.out]
          exact hc.1.trim hc.2
        · have d3 : ((k : Int) != 0) = true := by simp; omega
          have hM4 := hM3 hk0
          have x1' := hX5.cell 1
          simp only [List.getElem?_toArray, List.getElem?_cons_zero, List.getElem?_cons_succ] at x1'
          go_wp2_with (go_at_call 54; refine (hmost _).mono ?_; rintro e w6 ⟨rfl, hw6⟩; subst hw6)
          go_at_call 105
          refine (refText_any R M e2 hM4 y2 _ hR5).mono ?_
          rintro e w7 ⟨hg7, s3, y3, e3, rfl, hR7, ht3⟩
          have hX7 := hX5.grown hg7 (by simp; omega)
          have hY7 := hY5.grown hg7 (by simp; omega)
          have hg8 := grown_trans hg6 hg7
          have Ht3 := hide ht3
          clear hg5 hg6 hg7 hX4 hX5 hY4 hY5 hR4 hR5 ht3 x1 x2 xz2 x1'
          have x3 := hX7.cell 3
          have xz3 := hX7.frozen 3
          simp only [List.getElem?_toArray, List.getElem?_cons_zero, List.getElem?_cons_succ] at x3
          have hX8 := hX7.set 3 (.string s3)
          simp only [List.setIfInBounds_toArray, List.set_cons_zero, List.set_cons_succ] at hX8
          have hY8 := hY7.far (p := ⟨w.heap.size + 1, 3, none⟩) (by simp) (.string s3)
          have hR8 := hR7.far (X := w.heap.size + 1) (i := 3) (by omega) (.string s3)
          have hg9 := grown_new (X := w.heap.size + 1) (i := 3) (v := .string s3) hg8 (by omega)
          have v0 := hY8.cell 0
          have v1 := hY8.cell 1
          have v2 := hY8.cell 2
          have v3 := hY8.cell 3
          have u0 := hY8.frozen 0
          have u1 := hY8.frozen 1
          have u2 := hY8.frozen 2
          have u3 := hY8.frozen 3
          have w0 := hX8.cell 0
          have w1' := hX8.cell 1
          have w2' := hX8.cell 2
          have w3' := hX8.cell 3
          simp only [List.getElem?_toArray, List.getElem?_cons_zero, List.getElem?_cons_succ] at v0 v1 v2 v3 w0 w1' w2' w3'
          go_wp2
          have hc := recRel_chain (k := k) (e3 := e3) (s3 := s3) (y3 := y3) Hk.out hk2 He0.out (fun h => Hvy.out (by first | trivial | exact h)) he1.out Ht2.out (by rw [if_neg hk0, ← hM2.out hk0]; exact Ht3.out)
          refine bodyPost_ret (results_cell_row rfl _ _ w.heap.size 44 _ (0, 0) _ rfl (rec_blk hY8) Try.underlying44 rfl rec_size) rfl ⟨rec_grown hg9 (Nat.le_refl _), ⟨f, k, s2, s3⟩, y3, e3, rfl, rec_rrd hR8 hR, ?_⟩
          rw [← Hf.out]
          exact hc.1.trim hc.2
end Go.Proofs.Ytonhhbebpcaaeaa
