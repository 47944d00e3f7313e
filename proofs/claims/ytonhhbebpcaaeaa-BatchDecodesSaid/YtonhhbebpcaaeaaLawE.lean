/- The walk of the law BatchDecodes. -/
import Derived.Test.YtonhhbebpcaaeaaRdC
import Derived.Test.YtonhhbebpcaaeaaLawD
namespace Go.Proofs.Ytonhhbebpcaaeaa
open Go.RowKit

theorem rdVar_ne {most : Nat} {xs : List UInt8} {e : Nat} (h : rdVar most xs = .error e) : e ≠ 0 := by
  unfold rdVar at h
  split at h
  · rename_i h0; injection h with h; rw [← h]; exact h0
  · split at h
    · injection h with h; omega
    · cases h
theorem rdRec_ne {xs : List UInt8} {e : Nat} (h : rdRec xs = .error e) : e ≠ 0 := by
  unfold rdRec at h
  cases xs with
  | nil => injection h with h; omega
  | cons x ys =>
    simp only at h
    split at h
    · injection h with h; omega
    · cases hq : rdVar 4294967295 ys with
      | error e1 => rw [hq] at h; injection h with h; rw [← h]; exact rdVar_ne hq
      | ok p =>
        rw [hq] at h
        simp only at h
        cases hq2 : rdText 1024 p.2 with
        | error e1 => rw [hq2] at h; injection h with h; rw [← h]; exact rdText_ne hq2
        | ok p2 =>
          rw [hq2] at h
          simp only at h
          split at h
          · cases h
          · cases hq3 : rdText (if x.toNat = 1 then 16384 else 1024) p2.2 with
            | error e1 => rw [hq3] at h; injection h with h; rw [← h]; exact rdText_ne hq3
            | ok p3 => rw [hq3] at h; cases h
theorem rdAll_ne (n : Nat) : ∀ {xs : List UInt8} {e : Nat}, rdAll n xs = .error e → e ≠ 0 := by
  induction n with
  | zero => intro xs e h; cases h
  | succ n ih =>
    intro xs e h
    simp only [rdAll] at h
    cases hq : rdRec xs with
    | error e1 => rw [hq] at h; injection h with h; rw [← h]; exact rdRec_ne hq
    | ok p =>
      rw [hq] at h
      simp only at h
      cases hq2 : rdAll n p.2 with
      | error e1 => rw [hq2] at h; injection h with h; rw [← h]; exact ih hq2
      | ok p2 => rw [hq2] at h; cases h
theorem decode_ne {xs : List UInt8} {e : Nat} (h : decode xs = .error e) : e ≠ 0 := by
  unfold decode at h
  split at h
  · injection h with h; omega
  · split at h
    · injection h with h; omega
    · split at h
      · injection h with h; omega
      · split at h
        · injection h with h; omega
        · split at h
          · injection h with h; omega
          · cases hq : rdAll (leNat ((xs.drop 8).take 4)) (xs.drop 12) with
            | error e1 => rw [hq] at h; injection h with h; rw [← h]; exact rdAll_ne _ hq
            | ok p =>
              rw [hq] at h
              simp only at h
              split at h
              · injection h with h; omega
              · cases h

set_option maxRecDepth 100000 in
set_option maxHeartbeats 2000000 in
theorem batchDecodes_w (n c : Nat) (A : Option Addr) (xs : List UInt8) (w : World) (h : Bsl w w.heap.size A n c xs) :
    Calls Try.prog 5 #[.slice A n c] w fun e w' => e = .returned (.bool true) ∧ Below w.heap.size w w' := by
  have hlen := h.len
  have hcap := h.cap
  have hbig := h.big
  have hfew := h.few
  unfold maxLen at hbig
  unfold maxB at hfew
  obtain ⟨i0, hi0, hz0, hz1, hz2⟩ := info_parts info_byte
  have ho0 : (w.alloc (.cells #[] 5)).ownsRow w.heap.size 5 1 (.slice (some ⟨w.heap.size, 0, none⟩) 0 0) 0 [] := World.ownsRow_made w #[] 0 (Nat.le_refl _) (by unfold maxLen; omega) (by simp)
  have hb0 : Below w.heap.size w (w.alloc (.cells #[] 5)) := (Below.refl _ _).alloc (Nat.le_refl _) _
  have hh := h.below hb0
  go_enter Try.func5, Try.ntmps5
  go_wp2_with (at_builtin; refine wpList_append_rd _ rfl (.tmp 12) (.tmp 13) _ rfl w.heap.size 5 i0 _ 1 1 Try.underlying22 hi0 hz0 hz1 hz2 rfl (by decide) _ _ _ rfl ho0 w.heap.size A n c (xs.map eB) rfl (by simp [hlen]) hh.rd (eB_one xs) (by unfold maxLen; omega) (by omega) (by simp) ?_; intro v1 w1 hown1 hg1 hat1; rw [Nat.zero_add, List.nil_append] at hown1; obtain ⟨A1, cap1, rfl, hA1⟩ := own_form hown1)
  have hbw1 : Below w.heap.size w w1 := hb0.grown hg1 (by simp) (fun k e => (ho0.lt k e).1)
  have hbs1 := Bsl.of_own hown1 (by unfold maxB; omega)
  have hs1 := hbw1.size
  have hd := decode_w A1 n cap1 xs w1 hbs1
  clear ho0 hb0 hh hown1 hg1
  go_at_call 21
  refine hd.mono ?_
  rintro e w2 ⟨hb2, hp2⟩
  clear hd
  have hbw2 := hbw1.trans (hb2.mono hs1)
  have hs2 := hbw2.size
  have hd2 := refDecode_w A n c xs w2 ((h.below hbw2).more hs2)
  have hne : Hid (∀ e, decode xs = .error e → e ≠ 0) := fun e h => decode_ne h
  have hok : Hid (∀ seq rs, decode xs = .ok (seq, rs) → encErr seq rs = 0 ∧ encB seq rs = xs ∧ (∀ r ∈ rs, r.Ok) ∧ rs.map plainR = rs) := fun seq rs h => enc_decode h
  unfold DecPost at hd2
  cases hq : decode xs with
  | error er =>
    rw [hq] at hp2 hd2 hne
    simp only at hp2 hd2
    subst hp2
    have he := hne.out er rfl
    clear hq hne hok
    have t1 : ((er : Int) != 0) = true := by simp; omega
    have hnil : ∀ w : World, Rsl w w.heap.size none 0 0 [] := fun w => ⟨rfl, Nat.le_refl _, by unfold maxLen; omega, by omega, .inl rfl, by simp⟩
    go_wp2_with (first
      | (go_at_call 24; refine hd2.mono ?_; rintro e w3 ⟨hb3, rfl⟩; have hbw3 := hbw2.trans (hb3.mono hs2); have hs3 := hbw3.size)
      | (go_at_call 22; refine (same3_w none none 0 0 0 [] _ (hnil _) (hnil _)).mono ?_; rintro e w4 ⟨rfl, hb4⟩; have hbw4 := hbw3.trans (hb4.mono hs3); have hs4 := hbw4.size)
      | (go_at_call 20; refine (lives3_w _).mono ?_; rintro e w9 ⟨rfl, hb9⟩))
    go_ret
    exact ⟨rfl, hbw4.trans (hb9.mono hs4)⟩
  | ok p =>
    obtain ⟨seq, rs⟩ := p
    rw [hq] at hp2 hd2
    simp only at hp2 hd2
    obtain ⟨v2, rfl, ho2⟩ := hp2
    obtain ⟨he1, he2, he3, he4⟩ := hok.out _ _ hq
    obtain ⟨hf1, hf2, hf3, hf4⟩ := encErr_zero he1
    have hseq := fitsOf_seq hf1
    obtain ⟨A2, c2, rfl, -⟩ := own_form ho2
    clear hne hok hq hf1 hf3 he4
    have hR2 := Rsl.of_own ho2 he3 (by omega)
    generalize hlr : rs.length = L at *
    have hlr2 := hide hlr
    clear hlr hf4
    go_wp2_with fail
    go_at_call 24
    refine hd2.mono ?_
    rintro e w3 ⟨hb3, v3, rfl, ho3⟩
    have hbw3 := hbw2.trans (hb3.mono hs2)
    have hs3 := hbw3.size
    obtain ⟨A3, c3, rfl, -⟩ := own_form ho3
    have hR3 := Rsl.of_own ho3 he3 (by omega)
    have henc := fun (w : World) (hR : Rsl w w.heap.size A2 L c2 rs) => encode_w seq (by omega) A2 L c2 rs w hR
    unfold EncPost at henc
    rw [he1, he2] at henc
    clear hd2 ho2 ho3
    go_wp2_with (first
      | (go_at_call 22; refine (same3_w A2 A3 L c2 c3 rs _ (hR2.ext hb3) hR3).mono ?_; rintro e w4 ⟨rfl, hb4⟩; have hbw4 := hbw3.trans (hb4.mono hs3); have hs4 := hbw4.size)
      | (go_at_call 16; refine (henc _ ((hR2.ext hb3).ext hb4)).mono ?_; rintro e w5 ⟨v5, rfl, ho5, -, hb5⟩; have ho5 := ho5 trivial; rw [hlen] at ho5; obtain ⟨A5, c5, rfl, -⟩ := own_form ho5; have hbw5 := hbw4.trans (hb5.mono hs4); have hs5 := hbw5.size; have hB5 := Bsl.of_own ho5 (by unfold maxB; omega); have u5 := conv_bsl hB5; have u6 := conv_bsl ((h.below hbw5).more hs5))
      | (go_at_call 20; refine (lives3_w _).mono ?_; rintro e w9 ⟨rfl, hb9⟩))
    go_ret
    exact ⟨rfl, hbw5.trans (hb9.mono hs5)⟩
end Go.Proofs.Ytonhhbebpcaaeaa
