/- The reference's reader: varint, text. -/
import Derived.Test.YtonhhbebpcaaeaaLawP
namespace Go.Proofs.Ytonhhbebpcaaeaa
open Go.RowKit

/-- The reference's reader at block R: xs still to read, why told. -/
def Rrd (w : World) (R : Nat) (xs : List UInt8) (why : Nat) : Prop := ∃ A n c, Blk w R 120 #[.slice A n c, .int .i64 (why : Nat)] ∧ Bsl w R A n c xs
theorem Rrd.lt {w : World} {R : Nat} {xs : List UInt8} {e : Nat} (h : Rrd w R xs e) : R < w.heap.size := by obtain ⟨A, n, c, hB, hb⟩ := h; exact hB.lt
theorem Rrd.alloc {w : World} {R : Nat} {xs : List UInt8} {e : Nat} (h : Rrd w R xs e) (o : Obj) : Rrd (w.alloc o) R xs e := by
  have hR := h.lt
  obtain ⟨A, n, c, hB, hb⟩ := h
  exact ⟨A, n, c, hB.alloc o, hb.below ((Below.refl _ _).alloc (Nat.le_of_lt hR) o)⟩
theorem Rrd.far {w : World} {R X i : Nat} {xs : List UInt8} {e : Nat} (h : Rrd w R xs e) (hX : R < X) (v : Value) : Rrd (w.setCell ⟨X, i, none⟩ v) R xs e := by
  obtain ⟨A, n, c, hB, hb⟩ := h
  exact ⟨A, n, c, hB.far (by simp; omega) v, hb.keep fun p hp => World.cell?_setCell_far _ _ _ _ (by simp; omega)⟩
theorem Rrd.why {w : World} {R : Nat} {xs : List UInt8} {e : Nat} (h : Rrd w R xs e) (e' : Nat) : Rrd (w.setCell ⟨R, 1, none⟩ (.int .i64 (e' : Nat))) R xs e' := by
  obtain ⟨A, n, c, hB, hb⟩ := h
  exact ⟨A, n, c, by simpa using hB.set 1 (.int .i64 (e' : Nat)), hb.keep fun p hp => World.cell?_setCell_far _ _ _ _ (by simp; omega)⟩
theorem Rrd.put {w : World} {R : Nat} {v : Value} {e : Nat} {A : Option Addr} {n c : Nat} {ys : List UInt8} (h : Blk w R 120 #[v, .int .i64 (e : Nat)]) (hb : Bsl w R A n c ys) : Rrd (w.setCell ⟨R, 0, none⟩ (.slice A n c)) R ys e := by
  refine ⟨A, n, c, by simpa using h.set 0 (.slice A n c), hb.keep fun p hp => ?_⟩
  exact World.cell?_setCell_far _ _ _ _ (by simp; omega)
theorem grown_at {w0 w : World} {R i : Nat} {v : Value} (h : w0.grownBy w (some R)) : w0.grownBy (w.setCell ⟨R, i, none⟩ v) (some R) :=
  ⟨h.os, h.tape, h.output, by simpa [World.setCell] using h.size, fun k hk hne => (Below.heap_setCell w ⟨R, i, none⟩ v k (fun e => hne (by rw [e]))).trans (h.block k hk hne)⟩

/-- What the reference's varint leaves. -/
def RVarPost (w : World) (R : Nat) (xs : List UInt8) (e : Ending) (w' : World) : Prop :=
  w.grownBy w' (some R) ∧ ∃ (v : Nat) (ys : List UInt8), e = .returned (.int .u64 (v : Nat)) ∧ v < 18446744073709551616 ∧ Rrd w' R ys (readVar xs).2.2 ∧ ((readVar xs).2.2 = 0 → v = (readVar xs).1 ∧ ys = xs.drop (readVar xs).2.1)

set_option maxHeartbeats 1000000 in
theorem refVar_bad (R : Nat) (xs : List UInt8) (er : Nat) (he : er ≠ 0) (w : World) (h : Rrd w R xs er) :
    Calls Try.prog 104 #[.pointer (some ⟨R, 0, none⟩)] w fun e w' => e = .returned (.int .u64 0) ∧ w' = w := by
  obtain ⟨A, n, c, hB, hb⟩ := h
  have c1 := hB.cell 1
  simp only [List.getElem?_toArray, List.getElem?_cons_succ, List.getElem?_cons_zero] at c1
  have d1 : ((er : Int) != 0) = true := by simp; omega
  go_enter Try.func104, Try.ntmps104
  go_wp2
  go_ret
  exact ⟨rfl, rfl⟩

set_option maxHeartbeats 2000000 in
theorem refVar_rd (R : Nat) (xs : List UInt8) (w : World) (h : Rrd w R xs 0) :
    Calls Try.prog 104 #[.pointer (some ⟨R, 0, none⟩)] w (RVarPost w R xs) := by
  obtain ⟨A, n, c, hB, hb⟩ := h
  have hl := hb.len
  have hcap := hb.cap
  have hbig := hb.big
  unfold maxLen at hbig
  have hRw := hB.lt
  have c0 := hB.cell 0
  have c1 := hB.cell 1
  have z0 := hB.frozen 0
  have z1 := hB.frozen 1
  simp only [List.getElem?_toArray, List.getElem?_cons_succ, List.getElem?_cons_zero] at c0 c1
  have hrv := refReadVarint_w A n c xs w (hb.more (Nat.le_of_lt hRw))
  have hle := readVar_le xs
  have hlt := readVar_lt xs
  have hpos := readVar_pos xs
  have hin := rvGo_in 0 0 xs
  have hB2 : ∀ e : Nat, Blk (w.setCell ⟨R, 1, none⟩ (.int .i64 (e : Nat))) R 120 #[.slice A n c, .int .i64 (e : Nat)] := fun e => by simpa using hB.set 1 (.int .i64 (e : Nat))
  have hkeep : ∀ {A' n' c' xs'} (e : Nat), Bsl w R A' n' c' xs' → Bsl (w.setCell ⟨R, 1, none⟩ (.int .i64 (e : Nat))) R A' n' c' xs' := fun e h => h.keep fun p hp => World.cell?_setCell_far _ _ _ _ (by simp; omega)
  have hg1 : ∀ e : Nat, w.grownBy (w.setCell ⟨R, 1, none⟩ (.int .i64 (e : Nat))) (some R) := fun e => grown_at (grown_refl _ _)
  obtain ⟨v, hv⟩ : ∃ v, (readVar xs).1 = v := ⟨_, rfl⟩
  obtain ⟨k, hk⟩ : ∃ v, (readVar xs).2.1 = v := ⟨_, rfl⟩
  obtain ⟨er, her⟩ : ∃ v, (readVar xs).2.2 = v := ⟨_, rfl⟩
  have hin2 : k ≤ n ∧ (er ≠ 0 → k = 0) := by
    unfold readVar at hk her
    rw [hk, her] at hin
    exact ⟨by omega, hin.2.2⟩
  rw [hv, hk, her] at hrv
  rw [hk, her] at hpos
  rw [hk] at hle
  rw [hv] at hlt
  have Hv := hide hv
  have Hk := hide hk
  have Her := hide her
  clear hv hk her hin
  by_cases he : er = 0
  · have hk1 := hpos he
    subst he
    obtain ⟨g, o, rfl, hg, hcell⟩ := hb.at_ (k := 0) (by omega)
    have h1 := hb.cut (k := k) (by omega)
    have h0 := fun hk => hb.cut0 (k := k) hk (by omega)
    clear hcell hpos hin2
    go_enter Try.func104, Try.ntmps104
    go_wp2_with (go_at_call 123; refine hrv.mono ?_; rintro e w1 ⟨rfl, hw1⟩; subst hw1)
    · go_ret
      refine ⟨grown_at (hg1 0), v, xs.drop k, rfl, hlt, ?_, fun _ => ⟨Hv.out.symm, by rw [Hk.out]⟩⟩
      rw [Her.out]
      exact Rrd.put (hB2 0) (hkeep 0 (h0 (by assumption)))
    · go_ret
      refine ⟨grown_at (hg1 0), v, xs.drop k, rfl, hlt, ?_, fun _ => ⟨Hv.out.symm, by rw [Hk.out]⟩⟩
      rw [Her.out]
      exact Rrd.put (hB2 0) (hkeep 0 h1)
  · obtain rfl := hin2.2 he
    have Hne := hide he
    clear hpos hin2 he
    have fin : ∀ A' n' c', (A' = A ∧ n' = n ∧ c' = c) → RVarPost w R xs (.returned (.int .u64 (v : Nat))) ((w.setCell ⟨R, 1, none⟩ (.int .i64 (er : Nat))).setCell ⟨R, 0, none⟩ (.slice A' n' c')) := by
      rintro A' n' c' ⟨rfl, rfl, rfl⟩
      refine ⟨grown_at (hg1 er), v, xs, rfl, hlt, ?_, fun h0 => absurd (Her.out.symm.trans h0) Hne.out⟩
      rw [Her.out]
      exact Rrd.put (hB2 er) (hkeep er hb)
    have Fin := hide fin
    clear fin
    cases A with
    | none =>
      have hn : n = 0 := by
        rcases hb.rd with h1 | ⟨g, o, e, _⟩
        · simp at h1; subst h1; simpa using hl.symm
        · cases e
      subst hn
      go_enter Try.func104, Try.ntmps104
      go_wp2_with (go_at_call 123; refine hrv.mono ?_; rintro e w1 ⟨rfl, hw1⟩; subst hw1)
      all_goals
        go_ret
        exact Fin.out _ _ _ ⟨rfl, rfl, rfl⟩
    | some a =>
      obtain ⟨g, o, sp⟩ := a
      by_cases hc0 : c = 0
      · subst hc0
        go_enter Try.func104, Try.ntmps104
        go_wp2_with (go_at_call 123; refine hrv.mono ?_; rintro e w1 ⟨rfl, hw1⟩; subst hw1)
        all_goals
          go_ret
          exact Fin.out _ _ _ ⟨rfl, by omega, rfl⟩
      · go_enter Try.func104, Try.ntmps104
        go_wp2_with (go_at_call 123; refine hrv.mono ?_; rintro e w1 ⟨rfl, hw1⟩; subst hw1)
        all_goals
          go_ret
          exact Fin.out _ _ _ ⟨rfl, by omega, by omega⟩

/-- What a text read behind an error, or not, is. -/
def TextRel (most why : Nat) (xs : List UInt8) (s : ByteArray) (er : Nat) (ys : List UInt8) : Prop :=
  if why ≠ 0 then er = why else match rdText most xs with
    | .error e => er = e
    | .ok (s', ys') => er = 0 ∧ s = s' ∧ ys = ys'
def RTextPost (w : World) (R most why : Nat) (xs : List UInt8) (e : Ending) (w' : World) : Prop :=
  w.grownBy w' (some R) ∧ ∃ s ys er, e = .returned (.string s) ∧ Rrd w' R ys er ∧ TextRel most why xs s er ys
theorem rdText_var {most : Nat} {xs : List UInt8} : rdText most xs = if (readVar xs).2.2 ≠ 0 then .error (readVar xs).2.2 else if most < (readVar xs).1 then .error 3 else if (xs.drop (readVar xs).2.1).length < (readVar xs).1 then .error 4 else .ok (strOf ((xs.drop (readVar xs).2.1).take (readVar xs).1), (xs.drop (readVar xs).2.1).drop (readVar xs).1) := by
  unfold rdText rdVar
  split
  · rename_i e he
    split at he
    · rename_i h; rw [if_pos h]; injection he with he; rw [he]
    · rename_i h
      rw [if_neg h]
      split at he
      · rename_i h2; rw [if_pos h2]; injection he with he; rw [he]
      · cases he
  · rename_i n ys he
    split at he
    · cases he
    · rename_i h
      rw [if_neg h]
      split at he
      · cases he
      · rename_i h2
        rw [if_neg h2]
        injection he with he
        injection he with e1 e2
        rw [e1, e2]

set_option maxRecDepth 100000 in
set_option maxHeartbeats 2000000 in
theorem refText_any (R most why : Nat) (hm : most ≤ 16384) (xs : List UInt8) (w : World) (h : Rrd w R xs why) :
    Calls Try.prog 105 #[.pointer (some ⟨R, 0, none⟩), .int .i64 most] w (RTextPost w R most why xs) := by
  have hmm : (most : Int) % 18446744073709551616 = most := by omega
  by_cases hw : why = 0
  · subst hw
    have hv := refVar_rd R xs w h
    have hpost : Hid (∀ s er ys, TextRel most 0 xs s er ys = match rdText most xs with
      | .error e => er = e
      | .ok (s', ys') => er = 0 ∧ s = s' ∧ ys = ys') := fun s er ys => by unfold TextRel; rw [if_neg (by simp)]
    have hrt : Hid _ := hide (rdText_var (most := most) (xs := xs))
    go_enter Try.func105, Try.ntmps105
    go_wp2_with fail
    go_at_call 104
    refine hv.mono ?_
    rintro e w1 ⟨hg1, v, ys, rfl, hlt, hR1, hvy⟩
    clear hv
    generalize (readVar xs).2.2 = er at *
    have hR1' := hR1
    obtain ⟨A, n, c, hB, hb⟩ := hR1
    have hl := hb.len
    have hcap := hb.cap
    have hbig := hb.big
    unfold maxLen at hbig
    have c0 := hB.cell 0
    have c1 := hB.cell 1
    have z0 := hB.frozen 0
    have z1 := hB.frozen 1
    simp only [List.getElem?_toArray, List.getElem?_cons_succ, List.getElem?_cons_zero] at c0 c1
    by_cases he : er = 0
    · subst he
      obtain ⟨rfl, rfl⟩ := hvy rfl
      have hrt : Hid (rdText most xs = if most < (readVar xs).1 then .error 3 else if (xs.drop (readVar xs).2.1).length < (readVar xs).1 then .error 4 else .ok (strOf ((xs.drop (readVar xs).2.1).take (readVar xs).1), (xs.drop (readVar xs).2.1).drop (readVar xs).1)) := by
        unfold Hid; rw [hrt.out, if_neg (by simp)]
      clear hvy
      generalize xs.drop (readVar xs).2.1 = ys at *
      generalize (readVar xs).1 = v at *
      by_cases hbig2 : most < v
      · have d1 : decide ((v : Int) > (most : Int)) = true := by simp; omega
        go_wp2
        go_ret
        refine ⟨grown_at hg1, ⟨#[]⟩, ys, 3, rfl, hR1'.why 3, ?_⟩
        rw [hpost.out, hrt.out, if_pos hbig2]
      · have d1 : decide ((v : Int) > (most : Int)) = false := by simp; omega
        have hn : (n : Int) % 18446744073709551616 = n := by omega
        by_cases hsh : n < v
        · have d2 : decide ((v : Int) > (n : Int)) = true := by simp; omega
          go_wp2
          go_ret
          refine ⟨grown_at hg1, ⟨#[]⟩, ys, 4, rfl, hR1'.why 4, ?_⟩
          rw [hpost.out, hrt.out, if_neg hbig2, if_pos (by omega)]
        · have d2 : decide ((v : Int) > (n : Int)) = false := by simp; omega
          have hu : (convert 22 9 (.slice A v c)).run Try.prog w1 = .ok (.string (strOf (ys.take v))) w1 := run_conv_str Try.underlying22 Try.underlying5 Try.underlying9 ((hb.take (k := v) (by omega)).more (Nat.le_of_lt hB.lt))
          have fin : Hid (∀ A' n' c', Bsl w1 R A' n' c' (ys.drop v) → RTextPost w R most 0 xs (.returned (.string (strOf (ys.take v)))) (w1.setCell ⟨R, 0, none⟩ (.slice A' n' c'))) := by
            intro A' n' c' hb'
            refine ⟨grown_at hg1, _, ys.drop v, 0, rfl, Rrd.put hB hb', ?_⟩
            rw [hpost.out, hrt.out, if_neg hbig2, if_neg (by omega)]
            exact ⟨rfl, rfl, rfl⟩
          cases A with
          | none =>
            have hys : ys = [] := by
              rcases hb.rd with h1 | ⟨g, o, e, _⟩
              · simpa using h1
              · cases e
            subst hys
            simp only [List.length_nil] at hl
            subst hl
            obtain rfl : v = 0 := by omega
            go_wp2
            go_ret
            exact fin.out _ _ _ (Bsl.empty _ _ _ _ (by unfold maxLen; omega))
          | some a =>
            obtain ⟨g, o, sp⟩ := a
            by_cases hn0 : n = 0
            · subst hn0
              have hys : ys = [] := List.eq_nil_of_length_eq_zero hl
              subst hys
              obtain rfl : v = 0 := by omega
              by_cases hc0 : c = 0
              · subst hc0
                go_wp2
                go_ret
                exact fin.out _ _ _ (Bsl.empty _ _ _ _ (by unfold maxLen; omega))
              · go_wp2
                go_ret
                exact fin.out _ _ _ (Bsl.empty _ _ _ _ (by unfold maxLen; omega))
            · obtain ⟨g', o', e, hg, hcell⟩ := hb.at_ (k := 0) (by omega)
              injection e with e
              injection e with e1 e2 e3
              subst e1 e2 e3
              have h1 := hb.cut (k := v) (by omega)
              have h0 := fun hk => hb.cut0 (k := v) hk (by omega)
              clear hcell
              go_wp2
              · go_ret
                exact fin.out _ _ _ (h0 (by assumption))
              · go_ret
                exact fin.out _ _ _ h1
    · have d1 : ((er : Int) == 0) = false := by simp; omega
      have d2 : ((er : Int) != 0) = true := by simp; omega
      have Hne := hide he
      clear he hvy
      go_wp2
      go_ret
      refine ⟨hg1, ⟨#[]⟩, ys, er, rfl, hR1', ?_⟩
      rw [hpost.out, hrt.out, if_pos Hne.out]
  · have hb := refVar_bad R xs why hw w h
    have h' := h
    obtain ⟨A, n, c, hB, -⟩ := h'
    have c1 := hB.cell 1
    simp only [List.getElem?_toArray, List.getElem?_cons_succ, List.getElem?_cons_zero] at c1
    have d1 : ((why : Int) == 0) = false := by simp; omega
    have d2 : ((why : Int) != 0) = true := by simp; omega
    have Hne := hide hw
    clear hw
    go_enter Try.func105, Try.ntmps105
    go_wp2_with (go_at_call 104; refine hb.mono ?_; rintro e w1 ⟨rfl, hw1⟩; subst hw1)
    go_ret
    refine ⟨grown_refl _ _, ⟨#[]⟩, xs, why, rfl, h, ?_⟩
    unfold TextRel
    rw [if_pos Hne.out]
end Go.Proofs.Ytonhhbebpcaaeaa
