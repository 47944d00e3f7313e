/- A batch as bytes; the walk of batch.Encode. -/
import Derived.Test.YtonhhbebpcaaeaaBatF
namespace Go.Proofs.Ytonhhbebpcaaeaa
open Go.RowKit

def firstBad : List Rec → Nat
  | [] => 0
  | r :: rs => if checkOf r = 0 then firstBad rs else checkOf r
def encB (seq : Nat) (rs : List Rec) : List UInt8 := leBytes seq 8 ++ leBytes rs.length 4 ++ rs.flatMap recB
def encErr (seq : Nat) (rs : List Rec) : Nat :=
  if fitsOf seq rs.length = false then 1 else if 4096 < rs.length then 2 else if firstBad rs ≠ 0 then firstBad rs else if 4194304 < 12 + sizesOf rs then 2 else 0
theorem sizesOf_flat (rs : List Rec) : (rs.flatMap recB).length = sizesOf rs := by
  induction rs with
  | nil => rfl
  | cons r rs ih => simp only [List.flatMap_cons, List.length_append, sizesOf, ih]
theorem firstBad_take (rs : List Rec) (k : Nat) (r : Rec) (hr : rs[k]? = some r) (hc : checkOf r ≠ 0) (hk : ∀ x ∈ rs.take k, checkOf x = 0) : firstBad rs = checkOf r := by
  induction rs generalizing k with
  | nil => simp at hr
  | cons x rs ih =>
    cases k with
    | zero => simp at hr; subst hr; simp [firstBad, hc]
    | succ k =>
      have hx := hk x (by simp)
      simp only [firstBad, if_pos hx]
      exact ih k (by simpa using hr) fun y hy => hk y (by simp [hy])
theorem firstBad_none (rs : List Rec) (hk : ∀ x ∈ rs, checkOf x = 0) : firstBad rs = 0 := by
  induction rs with
  | nil => rfl
  | cons x rs ih =>
    simp only [firstBad, if_pos (hk x (by simp))]
    exact ih fun y hy => hk y (by simp [hy])

theorem take_snoc {rs : List Rec} {k : Nat} {r : Rec} (hr : rs[k]? = some r) : rs.take (k + 1) = rs.take k ++ [r] := by rw [List.take_add_one, hr]; rfl

/-- What Encode leaves. -/
def EncPost (w : World) (seq : Nat) (rs : List Rec) (e : Ending) (w' : World) : Prop :=
  ∃ v, e = .returned (.tuple #[v, .int .i64 (encErr seq rs : Nat)]) ∧ (encErr seq rs = 0 → w'.ownsRow w.heap.size 5 1 v (encB seq rs).length ((encB seq rs).map eB)) ∧ (encErr seq rs ≠ 0 → v = .slice none 0 0) ∧ Below w.heap.size w w'

theorem encode_arg (seq : Nat) (hs : seq < 18446744073709551616) (A : Option Addr) (n c : Nat) (rs : List Rec) (w : World) (h : Rsl w w.heap.size A n c rs) (hf : fitsOf seq n = false) :
    Calls Try.prog 16 #[.int .u64 seq, .slice A n c] w (EncPost w seq rs) := by
  have hl := h.len
  have hfew := h.few
  have he : Hid (encErr seq rs = 1) := by unfold Hid encErr; rw [hl, if_pos hf]
  have hft := fun w => fits_w seq n hs (by unfold maxB; omega) w
  go_enter Try.func16, Try.ntmps16
  go_wp2_with (go_at_call 46; refine (hft _).mono ?_; rintro e w1 ⟨rfl, rfl⟩; rw [hf])
  go_ret2
  exact ⟨.slice none 0 0, by rw [he.out]; rfl, fun h0 => by rw [he.out] at h0; omega, fun _ => rfl, Below.refl _ _⟩
theorem encode_long (seq : Nat) (hs : seq < 18446744073709551616) (A : Option Addr) (n c : Nat) (rs : List Rec) (w : World) (h : Rsl w w.heap.size A n c rs) (hf : fitsOf seq n = true) (hn : 4096 < n) :
    Calls Try.prog 16 #[.int .u64 seq, .slice A n c] w (EncPost w seq rs) := by
  have hl := h.len
  have hfew := h.few
  have he : Hid (encErr seq rs = 2) := by unfold Hid encErr; rw [hl, if_neg (by simp [hf]), if_pos hn]
  have hft := fun w => fits_w seq n hs (by unfold maxB; omega) w
  have hd : decide ((n : Int) > 4096) = true := by simp; omega
  go_enter Try.func16, Try.ntmps16
  go_wp2_with (go_at_call 46; refine (hft _).mono ?_; rintro e w1 ⟨rfl, rfl⟩; rw [hf])
  go_ret2
  exact ⟨.slice none 0 0, by rw [he.out]; rfl, fun h0 => by rw [he.out] at h0; omega, fun _ => rfl, Below.refl _ _⟩

set_option maxRecDepth 100000 in
set_option maxHeartbeats 4000000 in
theorem encode_main (seq : Nat) (hs : seq < 18446744073709551616) (A : Option Addr) (n c : Nat) (rs : List Rec) (w : World) (h : Rsl w w.heap.size A n c rs) (hf : fitsOf seq n = true) (hn : n ≤ 4096) :
    Calls Try.prog 16 #[.int .u64 seq, .slice A n c] w (EncPost w seq rs) := by
  obtain ⟨i0, hi0, hz0, hz1, hz2⟩ := info_parts info_byte
  have hl := h.len
  have hcap := h.cap
  have hbig := h.big
  unfold maxLen at hbig
  have he : Hid (encErr seq rs = if firstBad rs ≠ 0 then firstBad rs else if 4194304 < 12 + sizesOf rs then 2 else 0) := by unfold Hid encErr; rw [hl, if_neg (by simp [hf]), if_neg (by omega)]
  have hft := fun w => fits_w seq n hs (by unfold maxB; omega) w
  have hd : decide ((n : Int) > 4096) = false := by simp; omega
  have hm : (n : Int) % 4294967296 = n := by omega
  have h64 := fun w => fixed64_w seq w
  have h32 := fun w => fixed32_w n (by omega) w
  go_enter Try.func16, Try.ntmps16
  go_wp2_with (first
    | (go_at_call 46; refine (hft _).mono ?_; rintro e w0 ⟨rfl, hw0⟩; have hw0 := hw0.symm; subst hw0; rw [hf])
    | (go_at_call 47; refine (h64 _).mono ?_; rintro e w1 ⟨v1, rfl, hown1, hb1⟩; obtain ⟨A1, c1, rfl, _⟩ := own_form hown1)
    | (go_at_call 48; refine (h32 _).mono ?_; rintro e w2 ⟨v2, rfl, hown2, hb2⟩; obtain ⟨A2, c2, rfl, _⟩ := own_form hown2; have hbs2 : w.heap.size ≤ w2.heap.size := by have := hb1.size; have := hb2.size; omega)
    | (at_builtin; refine wpList_append_rd _ rfl (.tmp 21) (.tmp 25) _ rfl w.heap.size 5 i0 _ 1 1 Try.underlying22 hi0 hz0 hz1 hz2 rfl (by decide) _ _ _ rfl (own_below' hown1 hb2) w2.heap.size A2 4 c2 ((leBytes n 4).map eB) rfl (by simp [leBytes_len]) (Rd.of_own hown2) (eB_one _) (by unfold maxLen; omega) (by omega) hbs2 ?_; intro v3 w3 hown3 hg3 _))
  have hb3 := below_app' (hb1.trans (hb2.mono hb1.size)) (own_below' hown1 hb2) hbs2 hg3 rfl
  have hst0 := hg3.size
  rw [← List.map_append] at hown3
  have hacc0 : Hid ((leBytes seq 8 ++ leBytes n 4).length = 12) := by unfold Hid; simp [leBytes_len]
  have hencB : Hid (encB seq rs = (leBytes seq 8 ++ leBytes n 4) ++ rs.flatMap recB) := by unfold Hid encB; rw [hl]
  clear hown1 hown2 hg3
  generalize leBytes seq 8 ++ leBytes n 4 = hd0 at *
  generalize hG : w.heap.size = G at *
  have hG2 := hide hG
  clear hG
  obtain ⟨A3, c3, rfl, _⟩ := own_form hown3
  go_wp2_with fail
  go_loopw [6, 8, 9, 29] (fun v _ _ i wr => ∃ (k : Nat) (acc : List UInt8), k ≤ n ∧ i = .int .i64 k ∧ Below G w wr ∧ wr.ownsRow G 5 1 v acc.length (acc.map eB) ∧ (∀ r ∈ rs.take k, checkOf r = 0) ∧ acc.length ≤ 4300000 ∧ Hid (acc = hd0 ++ (rs.take k).flatMap recB ∨ (4194304 < acc.length ∧ 4194304 < 12 + sizesOf (rs.take k)))) (fun _ _ _ i _ => n - (intOf i).toNat)
  case atStart => exact ⟨0, hd0, by omega, rfl, hb3, by rw [hacc0.out]; exact hown3, fun r hr => by simp at hr, by rw [hacc0.out]; omega, .inl (by simp)⟩
  case round =>
    obtain ⟨k, acc, hk, rfl, hbw, how, hck, hbig, hacc⟩ := hrel
    have hG' := hG2.out
    have hsz : G ≤ wr.heap.size := by have := hbw.size; omega
    obtain ⟨A4, c4, rfl, _⟩ := own_form how
    by_cases hlt : k < n
    · obtain ⟨g, o, r, rfl, hg, hr, hok, c0, c1, c2, c3⟩ := (h.below hbw).at_ hlt
      have hBx := Blk.new wr 44 #[.int .u32 (r.f : Nat), .int .i64 r.kind, .string r.key, .string r.val]
      have hbx : Below G w (wr.alloc (.cells #[.int .u32 (r.f : Nat), .int .i64 r.kind, .string r.key, .string r.val] 44)) := hbw.alloc hsz _
      by_cases hc : checkOf r = 0
      · have hchk : ∀ w : World, Calls Try.prog 18 #[vRec r] w fun e w' => e = .returned (.int .i64 0) ∧ Below w.heap.size w w' := fun w => by have := check_w r hok w; rw [hc] at this; exact this
        have hck2 : ∀ x ∈ rs.take (k + 1), checkOf x = 0 := fun x hx => by
          rw [take_snoc hr, List.mem_append] at hx
          rcases hx with hx | hx
          · exact hck x hx
          · simp at hx; subst hx; exact hc
        have hst := sizesOf_take rs k r hr
        have hle := recB_le r hok hc
        by_cases hlim : acc.length ≤ 4194304
        · have hd2 : decide ((acc.length : Int) ≤ 4194304) = true := by simp; omega
          have hacc2 : Hid (acc ++ recB r = hd0 ++ (rs.take (k + 1)).flatMap recB) := by
            rcases hacc.out with h1 | h1
            · unfold Hid; rw [h1, take_snoc hr]; simp
            · omega
          have hbt := fun w => bytes_w r hok hc w
          clear hacc hst hck he hencB
          generalize recB r = row at *
          go_wp2_with (first
            | (go_at_call 18; refine (hchk _).mono ?_; rintro e w5 ⟨rfl, hb5⟩; have hB5 := Blk.ext hBx hb5; have d0 := hB5.cell 0; have d1 := hB5.cell 1; have d2 := hB5.cell 2; have d3 := hB5.cell 3; simp only [List.getElem?_toArray, List.getElem?_cons_succ, List.getElem?_cons_zero] at d0 d1 d2 d3)
            | (go_at_call 49; refine (hbt _).mono ?_; rintro e w6 ⟨v6, rfl, hown6, hb6⟩; obtain ⟨A6, c6, rfl, _⟩ := own_form hown6; have hsz6 : G ≤ w6.heap.size := by have := hb5.size; have := hb6.size; simp at *; omega)
            | (at_builtin; refine wpList_append_rd _ rfl (.tmp 41) (.tmp 43) _ rfl G 5 i0 _ 1 1 Try.underlying22 hi0 hz0 hz1 hz2 rfl (by decide) _ _ _ rfl (own_below' (own_below' (how.alloc _) hb5) hb6) w6.heap.size A6 row.length c6 (row.map eB) rfl (by simp) (Rd.of_own hown6) (eB_one _) (by unfold maxLen; omega) (by omega) hsz6 ?_; intro v7 w7 hown7 hg7 _))
          have hb7 := below_app' ((hbx.trans (hb5.mono (by simp; omega))).trans (hb6.mono (by have := hb5.size; simp at *; omega))) (own_below' (own_below' (how.alloc _) hb5) hb6) hsz6 hg7 rfl
          rw [← List.map_append, ← List.length_append] at hown7
          go_roundw
          case rel =>
            repeat apply Exists.intro
            exact ⟨⟨k + 1, acc ++ row, by omega, by first | rfl | go_num, hb7, hown7, hck2, by rw [List.length_append]; omega, .inl hacc2.out⟩, rfl⟩
          case measure => simp [intOf]; omega
        · have hd2 : decide ((acc.length : Int) ≤ 4194304) = false := by simp; omega
          have hacc2 : 4194304 < 12 + sizesOf (rs.take (k + 1)) := by
            rcases hacc.out with h1 | h1
            · have h2 := congrArg List.length h1
              rw [List.length_append, sizesOf_flat, hacc0.out] at h2
              omega
            · omega
          clear hacc hst hck he hencB
          go_wp2_with (go_at_call 18; refine (hchk _).mono ?_; rintro e w5 ⟨rfl, hb5⟩; have hB5 := Blk.ext hBx hb5; have d0 := hB5.cell 0; have d1 := hB5.cell 1; have d2 := hB5.cell 2; have d3 := hB5.cell 3; simp only [List.getElem?_toArray, List.getElem?_cons_succ, List.getElem?_cons_zero] at d0 d1 d2 d3)
          have hb7 := hbx.trans (hb5.mono (by simp; omega))
          go_roundw
          case rel =>
            repeat apply Exists.intro
            exact ⟨⟨k + 1, acc, by omega, by first | rfl | go_num, hb7, own_below' (how.alloc _) hb5, hck2, hbig, .inr ⟨by omega, hacc2⟩⟩, rfl⟩
          case measure => simp [intOf]; omega
      · have hchk := fun w => check_w r hok w
        have hfb := hide (firstBad_take rs k r hr hc hck)
        have hd2 : ((checkOf r : Int) != 0) = true := by simp; omega
        have hc3 := hide hc
        clear hc hacc hck
        generalize checkOf r = cc at *
        go_wp2_with (go_at_call 18; refine (hchk _).mono ?_; rintro e w5 ⟨rfl, hb5⟩)
        have hb7 := hbx.trans (hb5.mono (by simp; omega))
        go_ret2
        have hee : encErr seq rs = cc := by rw [he.out, hfb.out, if_pos hc3.out]
        exact ⟨.slice none 0 0, by rw [hee]; rfl, fun h0 => absurd (hee.symm.trans h0) hc3.out, fun _ => rfl, by rw [hG']; exact hb7⟩
    · obtain rfl : k = n := by omega
      have htk : rs.take k = rs := List.take_of_length_le (by omega)
      rw [htk] at hacc hck
      have hfb := hide (firstBad_none rs hck)
      have hlenB : (encB seq rs).length = 12 + sizesOf rs := by rw [hencB.out, List.length_append, sizesOf_flat, hacc0.out]
      by_cases hlim : acc.length ≤ 4194304
      · have hd2 : decide ((acc.length : Int) > 4194304) = false := by simp; omega
        have hacc2 : Hid (acc = encB seq rs) := by
          rcases hacc.out with h1 | h1
          · unfold Hid; rw [h1, hencB.out]
          · omega
        have hee : Hid (encErr seq rs = 0) := by
          unfold Hid
          rw [he.out, hfb.out, if_neg (by simp), if_neg]
          have := congrArg List.length hacc2.out
          omega
        clear hacc he hencB hck
        go_wp2
        go_ret2
        exact ⟨_, by rw [hee.out]; rfl, fun _ => by rw [hG', ← hacc2.out]; exact how, fun h0 => absurd hee.out h0, by rw [hG']; exact hbw⟩
      · have hd2 : decide ((acc.length : Int) > 4194304) = true := by simp; omega
        have hee : Hid (encErr seq rs = 2) := by
          unfold Hid
          rw [he.out, hfb.out, if_neg (by simp), if_pos]
          rcases hacc.out with h1 | h1
          · have h2 := congrArg List.length h1
            rw [List.length_append, sizesOf_flat, hacc0.out] at h2
            omega
          · exact h1.2
        clear hacc he hencB hck
        go_wp2
        go_ret2
        exact ⟨.slice none 0 0, by rw [hee.out]; rfl, fun h0 => by rw [hee.out] at h0; omega, fun _ => rfl, by rw [hG']; exact hbw⟩

theorem encode_w (seq : Nat) (hs : seq < 18446744073709551616) (A : Option Addr) (n c : Nat) (rs : List Rec) (w : World) (h : Rsl w w.heap.size A n c rs) :
    Calls Try.prog 16 #[.int .u64 seq, .slice A n c] w (EncPost w seq rs) := by
  by_cases hf : fitsOf seq n = true
  · by_cases hn : n ≤ 4096
    · exact encode_main seq hs A n c rs w h hf hn
    · exact encode_long seq hs A n c rs w h hf (by omega)
  · exact encode_arg seq hs A n c rs w h (by simpa using hf)
end Go.Proofs.Ytonhhbebpcaaeaa
