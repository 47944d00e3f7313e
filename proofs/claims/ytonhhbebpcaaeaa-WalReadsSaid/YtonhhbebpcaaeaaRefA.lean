/- The walk of the reference's fragment. -/
import Derived.Test.YtonhhbebpcaaeaaWalP
namespace Go.Proofs.Ytonhhbebpcaaeaa
open Go.RowKit

/-- A look at what is left, where so many bytes are left in the block. -/
def refP (rest : List UInt8) (left log : Nat) (rec begun : Bool) : Nx :=
  if zeros rest = true then .stop (endOf begun)
  else if rest.length < headOf rec then .stop 1
  else if left < sizeP rec rest then .stop (badOf rec)
  else if rest.length < sizeP rec rest then .stop 1
  else fragP log rec begun (rest.take (sizeP rec rest))
theorem refP_eq (rest : List UInt8) (left log : Nat) (rec begun : Bool) : refP rest left log rec begun = if zeros rest = true then .stop (endOf begun)
  else if rest.length < headOf rec then .stop 1
  else if left < sizeP rec rest then .stop (badOf rec)
  else if rest.length < sizeP rec rest then .stop 1
  else fragP log rec begun (rest.take (sizeP rec rest)) := rfl
theorem nextAt_ref (xs : List UInt8) (log : Nat) (rec begun : Bool) (pos : Nat) : nextAt xs log rec begun pos = refP (xs.drop pos) (4096 - pos % 4096) log rec begun := by
  unfold nextAt refP
  rw [List.length_drop]

theorem leNat_two (xs : List UInt8) (h : 7 ≤ xs.length) : leNat ((xs.drop 4).take 2) = (xs.getD 4 0).toNat + (xs.getD 5 0).toNat * 256 := by
  match xs, h with
  | [_, _, _, _, _, _, _], _ => simp [leNat]; omega
  | a :: b :: c :: d :: e :: f :: g :: l, _ => simp [leNat]; omega
theorem take_get6 (xs : List UInt8) (s : Nat) (h : 7 ≤ s) : (xs.take s).getD 6 0 = xs.getD 6 0 := by
  simp only [List.getD, List.getElem?_take]
  rw [if_pos (by omega)]
theorem take_take4 (xs : List UInt8) (s : Nat) (h : 7 ≤ s) : (xs.take s).take 4 = xs.take 4 := by rw [List.take_take, Nat.min_eq_left (by omega)]
theorem take_log (xs : List UInt8) (s : Nat) (h : 11 ≤ s) : ((xs.take s).drop 7).take 4 = (xs.drop 7).take 4 := by rw [List.drop_take, List.take_take, Nat.min_eq_left (by omega)]

def RefPost (w : World) (B : Nat) (q : Nx) (e : Ending) (w' : World) : Prop :=
  Below w.heap.size w w' ∧ match q with
  | .stop how => e = .returned (.tuple #[.int .i64 0, .slice none 0 0, .int .i64 (how : Nat)])
  | .frag t x => ∃ A n c, e = .returned (.tuple #[.int .i64 (t : Nat), .slice A n c, .int .i64 0]) ∧ Bsl w' B A n c x

theorem refEndL {w : World} {B n' c' t k : Nat} {q : Nx} {x : List UInt8} {A' : Option Addr} {T : Value} (hs : Bsl w B A' n' c' x) (hq : q = Nx.frag t x) (hT : T = .int .i64 (t : Nat)) :
    RefPost w B q (.returned (.tuple #[T, .slice A' n' c', .int .i64 0])) (w.drewN k) := by
  subst hT
  refine ⟨below_drewN (Below.refl _ _) k, ?_⟩
  rw [hq]
  exact ⟨A', n', c', rfl, hs.drewN k⟩


set_option maxHeartbeats 2000000 in
theorem refFragF_w (B n c left log : Nat) (begun : Bool) (A : Option Addr) (rest : List UInt8) (w : World) (h : Bsl w B A n c rest) (hB : B ≤ w.heap.size) :
    Calls Try.prog 43 #[.slice A n c, .int .i64 (left : Nat), .int .i64 (headOf false : Nat), .int .u32 (log : Nat), .bool false, .bool begun, .int .i64 (badOf false : Nat)] w (RefPost w B (refP rest left log false begun)) := by
  have hlen := h.len
  have hcap := h.cap
  have hbig := h.big
  unfold maxLen at hbig
  have hq := hide (refP_eq rest left log false begun)
  generalize refP rest left log false begun = q at *
  simp only [headOf, badOf, Bool.false_eq_true, if_false] at hq ⊢
  rw [hlen] at hq
  have hno := refNoughts_w _ _ _ rest w (h.more hB)
  have hend := refEnd_w begun w
  by_cases hz : zeros rest = true
  · rw [hz] at hno
    go_enter Try.func43, Try.ntmps43
    go_wp2_with (first | (go_at_call 41; refine hno.mono ?_; rintro e w2 ⟨rfl, rfl⟩) | (go_at_call 42; refine hend.mono ?_; rintro e w2 ⟨rfl, rfl⟩))
    go_ret3
    rw [hq.out, if_pos hz]
    exact ⟨Below.refl _ _, rfl⟩
  · have hz2 : zeros rest = false := by simpa using hz
    rw [hz2] at hno
    by_cases h7 : n < 7
    · have t1 : decide ((n : Int) < 7) = true := by simp; omega
      go_enter Try.func43, Try.ntmps43
      go_wp2_with (go_at_call 41; refine hno.mono ?_; rintro e w2 ⟨rfl, rfl⟩)
      go_ret3
      rw [hq.out, if_neg hz, if_pos h7]
      exact ⟨Below.refl _ _, rfl⟩
    · have t1 : decide ((n : Int) < 7) = false := by simp; omega
      obtain ⟨g, o, rfl, hg, hcell⟩ := h.at_ (k := 6) (by omega)
      have hb4 := (rest.getD 4 0).toNat_lt
      have hb5 := (rest.getD 5 0).toNat_lt
      have hS : Hid (sizeP false rest = 7 + leNat ((rest.drop 4).take 2)) := by
        unfold Hid sizeP
        rw [leNat_two rest (by omega)]
        simp only [headOf, Bool.false_eq_true, if_false]
        omega
      have hM : leNat ((rest.drop 4).take 2) < 65536 := by rw [leNat_two rest (by omega)]; omega
      have hr2 := refReadFixed_w _ _ _ 2 (rest.drop 4) w ((h.cut (k := 4) (by omega)).more hB) (by omega) (by omega)
      have hr4 := refReadFixed_w _ _ _ 4 rest w (h.more hB) (by omega) (by omega)
      rw [hS.out] at hq
      clear hS
      generalize leNat ((rest.drop 4).take 2) = m at *
      have hm64 : (m : Int) < 65536 := by omega
      have hmw : Hid ((7 : Int) + (m : Int) = ((7 + m : Nat) : Int)) := by unfold Hid; omega
      have hM4 : leNat (rest.take 4) < 4294967296 := by
        have := leNat_lt (rest.take 4)
        rw [List.length_take, hlen, Nat.min_eq_left (by omega)] at this
        exact this
      generalize hL : leNat (rest.take 4) = L at *
      by_cases k1 : left < 7 + m
      · have t2 : decide ((left : Int) < 7 + (m : Int)) = true := by simp; omega
        go_enter Try.func43, Try.ntmps43
        go_wp2_with (first | (go_at_call 41; refine hno.mono ?_; rintro e w2 ⟨rfl, rfl⟩) | (go_at_call 63; refine hr2.mono ?_; rintro e w2 ⟨rfl, rfl⟩))
        go_ret3
        rw [hq.out, if_neg hz, if_neg h7, if_pos k1]
        exact ⟨Below.refl _ _, rfl⟩
      · have t2 : decide ((left : Int) < 7 + (m : Int)) = false := by simp; omega
        by_cases k2 : n < 7 + m
        · have t3 : decide ((n : Int) < 7 + (m : Int)) = true := by simp; omega
          go_enter Try.func43, Try.ntmps43
          go_wp2_with (first | (go_at_call 41; refine hno.mono ?_; rintro e w2 ⟨rfl, rfl⟩) | (go_at_call 63; refine hr2.mono ?_; rintro e w2 ⟨rfl, rfl⟩))
          go_ret3
          rw [hq.out, if_neg hz, if_neg h7, if_neg k1, if_pos k2]
          exact ⟨Below.refl _ _, rfl⟩
        · have t3 : decide ((n : Int) < 7 + (m : Int)) = false := by simp; omega
          have hq2 : Hid (q = fragP log false begun (rest.take (7 + m))) := by unfold Hid; rw [hq.out, if_neg hz, if_neg h7, if_neg k1, if_neg k2]
          clear hq
          go_enter Try.func43, Try.ntmps43
          go_wp2_with fail
          go_at_call 41
          refine hno.mono ?_
          rintro e w2 ⟨rfl, rfl⟩
          go_wp2_with fail
          go_at_call 63
          refine hr2.mono ?_
          rintro e w2 ⟨rfl, rfl⟩
          clear hr2 hno hend
          go_wp2_with fail
          go_at_call 63
          refine hr4.mono ?_
          rintro e w2 ⟨rfl, rfl⟩
          clear hr4
          have hb := h.take (k := 7 + m) (by omega)
          have hb6 := hb.cut (k := 6) (by omega)
          have hb7 := hb.cut (k := 7) (by omega)
          have hx := (rest.getD 6 0).toNat_lt
          have hq : Hid (q = if maskOf (crc ((rest.take (7 + m)).drop 6)) ≠ L then .stop 3 else if ((rest.getD 6 0).toNat : Int) < 1 then .stop 3 else if 4 < ((rest.getD 6 0).toNat : Int) then .stop 3
              else if decide (((rest.getD 6 0).toNat : Int) = 1 ∨ ((rest.getD 6 0).toNat : Int) = 2) = begun then .stop 3 else .frag (rest.getD 6 0).toNat ((rest.take (7 + m)).drop 7)) := by
            unfold Hid
            rw [hq2.out]
            unfold fragP typOf
            rw [take_get6 rest (7 + m) (by omega), take_take4 rest (7 + m) (by omega), hL]
            simp [badOf, headOf]
          have hLh := hide hL
          clear hq2 hb4 hb5 hL
          have hcr := crc_lt ((rest.take (7 + m)).drop 6)
          have hmk := maskOf_lt (crc ((rest.take (7 + m)).drop 6))
          have hsum := refSum_w _ _ _ _ w2 (hb6.more hB)
          have hmask := refMask_w (crc ((rest.take (7 + m)).drop 6)) hcr w2
          generalize maskOf (crc ((rest.take (7 + m)).drop 6)) = M at *
          generalize crc ((rest.take (7 + m)).drop 6) = C at *
          generalize (rest.getD 6 0).toNat = k at *
          go_wp2_with fail
          go_at_call 93
          refine hsum.mono ?_
          rintro e w3 ⟨rfl, rfl⟩
          clear hsum
          go_wp2_with fail
          go_at_call 92
          refine hmask.mono ?_
          rintro e w4 ⟨rfl, rfl⟩
          clear hmask
          by_cases j1 : M = L
          · have u1 : ((M : Int) != (L : Int)) = false := by rw [j1]; simp
            by_cases j2 : k < 1
            · have u2 : decide ((k : Int) < 1) = true := by simp; omega
              go_wp2
              go_ret3
              rw [hq.out, if_neg (by omega), if_pos (by omega)]
              exact ⟨Below.refl _ _, rfl⟩
            · have u2 : decide ((k : Int) < 1) = false := by simp; omega
              by_cases j3 : 4 < k
              · have u3 : decide ((4 : Int) < (k : Int)) = true := by simp; omega
                go_wp2
                go_ret3
                rw [hq.out, if_neg (by omega), if_neg (by omega), if_pos (by omega)]
                exact ⟨Below.refl _ _, rfl⟩
              · have hk : (k = 1 ∨ k = 2) ∨ (k = 3 ∨ k = 4) := by omega
                have hq2 : Hid (q = if decide ((k : Int) = 1 ∨ (k : Int) = 2) = begun then Nx.stop 3 else Nx.frag k ((rest.take (7 + m)).drop 7)) := by
                  unfold Hid
                  rw [hq.out, if_neg (by omega), if_neg (by omega), if_neg (by omega)]
                clear hq
                have hmm : 7 + m - 7 = m := by omega
                rcases hk with hk | hk
                · cases begun
                  · have hq3 : Hid (q = Nx.frag k ((rest.take (7 + m)).drop 7)) := by
                      unfold Hid
                      rw [hq2.out, if_neg (by simp; omega)]
                    clear hq2
                    rcases hk with rfl | rfl
                    · by_cases hcc : c = 7
                      · have hb70 := hb.cut0 (k := 7) hcc (by omega)
                        subst hcc
                        go_wp2
                        go_quiet (fail)
                        go_wp2
                        go_ret3
                        exact refEndL hb70 (t := 1) hq3.out rfl
                      · go_wp2
                        go_quiet (fail)
                        go_wp2
                        go_ret3
                        exact refEndL hb7 (t := 1) hq3.out rfl
                    · by_cases hcc : c = 7
                      · have hb70 := hb.cut0 (k := 7) hcc (by omega)
                        subst hcc
                        go_wp2
                        go_quiet (fail)
                        go_wp2
                        go_ret3
                        exact refEndL hb70 (t := 2) hq3.out rfl
                      · go_wp2
                        go_quiet (fail)
                        go_wp2
                        go_ret3
                        exact refEndL hb7 (t := 2) hq3.out rfl
                  · have hq3 : Hid (q = Nx.stop 3) := by
                      unfold Hid
                      rw [hq2.out, if_pos (by simp; omega)]
                    clear hq2
                    rcases hk with rfl | rfl
                    · go_wp2
                      go_ret3
                      rw [hq3.out]
                      exact ⟨Below.refl _ _, rfl⟩
                    · go_wp2
                      go_ret3
                      rw [hq3.out]
                      exact ⟨Below.refl _ _, rfl⟩
                · cases begun
                  · have hq3 : Hid (q = Nx.stop 3) := by
                      unfold Hid
                      rw [hq2.out, if_pos (by simp; omega)]
                    clear hq2
                    rcases hk with rfl | rfl
                    · go_wp2
                      go_ret3
                      rw [hq3.out]
                      exact ⟨Below.refl _ _, rfl⟩
                    · go_wp2
                      go_ret3
                      rw [hq3.out]
                      exact ⟨Below.refl _ _, rfl⟩
                  · have hq3 : Hid (q = Nx.frag k ((rest.take (7 + m)).drop 7)) := by
                      unfold Hid
                      rw [hq2.out, if_neg (by simp; omega)]
                    clear hq2
                    rcases hk with rfl | rfl
                    · by_cases hcc : c = 7
                      · have hb70 := hb.cut0 (k := 7) hcc (by omega)
                        subst hcc
                        go_wp2
                        go_quiet (fail)
                        go_wp2
                        go_ret3
                        exact refEndL hb70 (t := 3) hq3.out rfl
                      · go_wp2
                        go_quiet (fail)
                        go_wp2
                        go_ret3
                        exact refEndL hb7 (t := 3) hq3.out rfl
                    · by_cases hcc : c = 7
                      · have hb70 := hb.cut0 (k := 7) hcc (by omega)
                        subst hcc
                        go_wp2
                        go_quiet (fail)
                        go_wp2
                        go_ret3
                        exact refEndL hb70 (t := 4) hq3.out rfl
                      · go_wp2
                        go_quiet (fail)
                        go_wp2
                        go_ret3
                        exact refEndL hb7 (t := 4) hq3.out rfl
          · have u1 : ((M : Int) != (L : Int)) = true := by rw [bne_iff_ne]; omega
            go_wp2
            go_ret3
            rw [hq.out, if_pos j1]
            exact ⟨Below.refl _ _, rfl⟩

set_option maxHeartbeats 2000000 in
theorem refFragT_w (B n c left log : Nat) (begun : Bool) (A : Option Addr) (rest : List UInt8) (w : World) (h : Bsl w B A n c rest) (hB : B ≤ w.heap.size) :
    Calls Try.prog 43 #[.slice A n c, .int .i64 (left : Nat), .int .i64 (headOf true : Nat), .int .u32 (log : Nat), .bool true, .bool begun, .int .i64 (badOf true : Nat)] w (RefPost w B (refP rest left log true begun)) := by
  have hlen := h.len
  have hcap := h.cap
  have hbig := h.big
  unfold maxLen at hbig
  have hq := hide (refP_eq rest left log true begun)
  generalize refP rest left log true begun = q at *
  simp only [headOf, badOf, if_true] at hq ⊢
  rw [hlen] at hq
  have hno := refNoughts_w _ _ _ rest w (h.more hB)
  have hend := refEnd_w begun w
  by_cases hz : zeros rest = true
  · rw [hz] at hno
    go_enter Try.func43, Try.ntmps43
    go_wp2_with (first | (go_at_call 41; refine hno.mono ?_; rintro e w2 ⟨rfl, rfl⟩) | (go_at_call 42; refine hend.mono ?_; rintro e w2 ⟨rfl, rfl⟩))
    go_ret3
    rw [hq.out, if_pos hz]
    exact ⟨Below.refl _ _, rfl⟩
  · have hz2 : zeros rest = false := by simpa using hz
    rw [hz2] at hno
    by_cases h7 : n < 11
    · have t1 : decide ((n : Int) < 11) = true := by simp; omega
      go_enter Try.func43, Try.ntmps43
      go_wp2_with (go_at_call 41; refine hno.mono ?_; rintro e w2 ⟨rfl, rfl⟩)
      go_ret3
      rw [hq.out, if_neg hz, if_pos h7]
      exact ⟨Below.refl _ _, rfl⟩
    · have t1 : decide ((n : Int) < 11) = false := by simp; omega
      obtain ⟨g, o, rfl, hg, hcell⟩ := h.at_ (k := 6) (by omega)
      have hb4 := (rest.getD 4 0).toNat_lt
      have hb5 := (rest.getD 5 0).toNat_lt
      have hS : Hid (sizeP true rest = 11 + leNat ((rest.drop 4).take 2)) := by
        unfold Hid sizeP
        rw [leNat_two rest (by omega)]
        simp only [headOf, if_true]
        omega
      have hM : leNat ((rest.drop 4).take 2) < 65536 := by rw [leNat_two rest (by omega)]; omega
      have hr2 := refReadFixed_w _ _ _ 2 (rest.drop 4) w ((h.cut (k := 4) (by omega)).more hB) (by omega) (by omega)
      have hr4 := refReadFixed_w _ _ _ 4 rest w (h.more hB) (by omega) (by omega)
      rw [hS.out] at hq
      clear hS
      generalize leNat ((rest.drop 4).take 2) = m at *
      have hm64 : (m : Int) < 65536 := by omega
      have hmw : Hid ((11 : Int) + (m : Int) = ((11 + m : Nat) : Int)) := by unfold Hid; omega
      have hM4 : leNat (rest.take 4) < 4294967296 := by
        have := leNat_lt (rest.take 4)
        rw [List.length_take, hlen, Nat.min_eq_left (by omega)] at this
        exact this
      generalize hL : leNat (rest.take 4) = L at *
      by_cases k1 : left < 11 + m
      · have t2 : decide ((left : Int) < 11 + (m : Int)) = true := by simp; omega
        go_enter Try.func43, Try.ntmps43
        go_wp2_with (first | (go_at_call 41; refine hno.mono ?_; rintro e w2 ⟨rfl, rfl⟩) | (go_at_call 63; refine hr2.mono ?_; rintro e w2 ⟨rfl, rfl⟩))
        go_ret3
        rw [hq.out, if_neg hz, if_neg h7, if_pos k1]
        exact ⟨Below.refl _ _, rfl⟩
      · have t2 : decide ((left : Int) < 11 + (m : Int)) = false := by simp; omega
        by_cases k2 : n < 11 + m
        · have t3 : decide ((n : Int) < 11 + (m : Int)) = true := by simp; omega
          go_enter Try.func43, Try.ntmps43
          go_wp2_with (first | (go_at_call 41; refine hno.mono ?_; rintro e w2 ⟨rfl, rfl⟩) | (go_at_call 63; refine hr2.mono ?_; rintro e w2 ⟨rfl, rfl⟩))
          go_ret3
          rw [hq.out, if_neg hz, if_neg h7, if_neg k1, if_pos k2]
          exact ⟨Below.refl _ _, rfl⟩
        · have t3 : decide ((n : Int) < 11 + (m : Int)) = false := by simp; omega
          have hq2 : Hid (q = fragP log true begun (rest.take (11 + m))) := by unfold Hid; rw [hq.out, if_neg hz, if_neg h7, if_neg k1, if_neg k2]
          clear hq
          go_enter Try.func43, Try.ntmps43
          go_wp2_with fail
          go_at_call 41
          refine hno.mono ?_
          rintro e w2 ⟨rfl, rfl⟩
          go_wp2_with fail
          go_at_call 63
          refine hr2.mono ?_
          rintro e w2 ⟨rfl, rfl⟩
          clear hr2 hno hend
          go_wp2_with fail
          go_at_call 63
          refine hr4.mono ?_
          rintro e w2 ⟨rfl, rfl⟩
          clear hr4
          have hb := h.take (k := 11 + m) (by omega)
          have hb6 := hb.cut (k := 6) (by omega)
          have hb7 := hb.cut (k := 11) (by omega)
          have hx := (rest.getD 6 0).toNat_lt
          have hq : Hid (q = if maskOf (crc ((rest.take (11 + m)).drop 6)) ≠ L then .stop 1 else if ((rest.getD 6 0).toNat : Int) - 4 < 1 then .stop 1 else if 4 < ((rest.getD 6 0).toNat : Int) - 4 then .stop 1
              else if leNat ((rest.drop 7).take 4) ≠ log then .stop 2 else if decide (((rest.getD 6 0).toNat : Int) - 4 = 1 ∨ ((rest.getD 6 0).toNat : Int) - 4 = 2) = begun then .stop 1 else .frag (((rest.getD 6 0).toNat : Int) - 4).toNat ((rest.take (11 + m)).drop 11)) := by
            unfold Hid
            rw [hq2.out]
            unfold fragP typOf
            rw [take_get6 rest (11 + m) (by omega), take_take4 rest (11 + m) (by omega), take_log rest (11 + m) (by omega), hL]
            simp [badOf, headOf]
          have hLh := hide hL
          clear hq2 hb4 hb5 hL
          have hlg := refReadFixed_w _ _ _ 4 (rest.drop 7) w2 ((h.cut (k := 7) (by omega)).more hB) (by omega) (by omega)
          have hL24 : leNat ((rest.drop 7).take 4) < 4294967296 := by
            have := leNat_lt ((rest.drop 7).take 4)
            rw [List.length_take, List.length_drop, hlen, Nat.min_eq_left (by omega)] at this
            exact this
          generalize leNat ((rest.drop 7).take 4) = L2 at *
          have hL2i : (L2 : Int) < 4294967296 := by omega
          have hcr := crc_lt ((rest.take (11 + m)).drop 6)
          have hmk := maskOf_lt (crc ((rest.take (11 + m)).drop 6))
          have hsum := refSum_w _ _ _ _ w2 (hb6.more hB)
          have hmask := refMask_w (crc ((rest.take (11 + m)).drop 6)) hcr w2
          generalize maskOf (crc ((rest.take (11 + m)).drop 6)) = M at *
          generalize crc ((rest.take (11 + m)).drop 6) = C at *
          generalize (rest.getD 6 0).toNat = k at *
          go_wp2_with fail
          go_at_call 93
          refine hsum.mono ?_
          rintro e w3 ⟨rfl, rfl⟩
          clear hsum
          go_wp2_with fail
          go_at_call 92
          refine hmask.mono ?_
          rintro e w4 ⟨rfl, rfl⟩
          clear hmask
          by_cases j1 : M = L
          · have u1 : ((M : Int) != (L : Int)) = false := by rw [j1]; simp
            by_cases j2 : k < 5
            · have u2 : decide ((k : Int) - 4 < 1) = true := by simp; omega
              have u2' : (k : Int) - 4 < 1 := by omega
              go_wp2
              go_ret3
              rw [hq.out, if_neg (by omega), if_pos (by omega)]
              exact ⟨Below.refl _ _, rfl⟩
            · have u2 : decide ((k : Int) - 4 < 1) = false := by simp; omega
              by_cases j3 : 8 < k
              · have u3 : decide ((4 : Int) < (k : Int) - 4) = true := by simp; omega
                have u3' : (4 : Int) < (k : Int) - 4 := by omega
                go_wp2
                go_ret3
                rw [hq.out, if_neg (by omega), if_neg (by omega), if_pos (by omega)]
                exact ⟨Below.refl _ _, rfl⟩
              · have hk : (k = 5 ∨ k = 6) ∨ (k = 7 ∨ k = 8) := by omega
                have hq2 : Hid (q = if L2 ≠ log then .stop 2 else if decide ((k : Int) - 4 = 1 ∨ (k : Int) - 4 = 2) = begun then Nx.stop 1 else Nx.frag ((k : Int) - 4).toNat ((rest.take (11 + m)).drop 11)) := by
                  unfold Hid
                  rw [hq.out, if_neg (by omega), if_neg (by omega), if_neg (by omega)]
                clear hq u2
                by_cases k5 : L2 = log
                · have u5 : ((L2 : Int) != (log : Int)) = false := by rw [k5]; simp
                  rcases hk with hk | hk
                  · cases begun
                    · have hq3 : Hid (q = Nx.frag ((k : Int) - 4).toNat ((rest.take (11 + m)).drop 11)) := by
                        unfold Hid
                        rw [hq2.out, if_neg (by omega), if_neg (by simp; omega)]
                      clear hq2
                      rcases hk with rfl | rfl
                      · by_cases hcc : c = 11
                        · have hb70 := hb.cut0 (k := 11) hcc (by omega)
                          subst hcc
                          go_wp2_with (go_at_call 63; refine hlg.mono ?_; rintro e w5 ⟨rfl, rfl⟩)
                          go_quiet (fail)
                          go_wp2
                          go_ret3
                          exact refEndL hb70 (t := 1) hq3.out rfl
                        · go_wp2_with (go_at_call 63; refine hlg.mono ?_; rintro e w5 ⟨rfl, rfl⟩)
                          go_quiet (fail)
                          go_wp2
                          go_ret3
                          exact refEndL hb7 (t := 1) hq3.out rfl
                      · by_cases hcc : c = 11
                        · have hb70 := hb.cut0 (k := 11) hcc (by omega)
                          subst hcc
                          go_wp2_with (go_at_call 63; refine hlg.mono ?_; rintro e w5 ⟨rfl, rfl⟩)
                          go_quiet (fail)
                          go_wp2
                          go_ret3
                          exact refEndL hb70 (t := 2) hq3.out rfl
                        · go_wp2_with (go_at_call 63; refine hlg.mono ?_; rintro e w5 ⟨rfl, rfl⟩)
                          go_quiet (fail)
                          go_wp2
                          go_ret3
                          exact refEndL hb7 (t := 2) hq3.out rfl
                    · have hq3 : Hid (q = Nx.stop 1) := by
                        unfold Hid
                        rw [hq2.out, if_neg (by omega), if_pos (by simp; omega)]
                      clear hq2
                      rcases hk with rfl | rfl
                      · go_wp2_with (go_at_call 63; refine hlg.mono ?_; rintro e w5 ⟨rfl, rfl⟩)
                        go_ret3
                        rw [hq3.out]
                        exact ⟨Below.refl _ _, rfl⟩
                      · go_wp2_with (go_at_call 63; refine hlg.mono ?_; rintro e w5 ⟨rfl, rfl⟩)
                        go_ret3
                        rw [hq3.out]
                        exact ⟨Below.refl _ _, rfl⟩
                  · cases begun
                    · have hq3 : Hid (q = Nx.stop 1) := by
                        unfold Hid
                        rw [hq2.out, if_neg (by omega), if_pos (by simp; omega)]
                      clear hq2
                      rcases hk with rfl | rfl
                      · go_wp2_with (go_at_call 63; refine hlg.mono ?_; rintro e w5 ⟨rfl, rfl⟩)
                        go_ret3
                        rw [hq3.out]
                        exact ⟨Below.refl _ _, rfl⟩
                      · go_wp2_with (go_at_call 63; refine hlg.mono ?_; rintro e w5 ⟨rfl, rfl⟩)
                        go_ret3
                        rw [hq3.out]
                        exact ⟨Below.refl _ _, rfl⟩
                    · have hq3 : Hid (q = Nx.frag ((k : Int) - 4).toNat ((rest.take (11 + m)).drop 11)) := by
                        unfold Hid
                        rw [hq2.out, if_neg (by omega), if_neg (by simp; omega)]
                      clear hq2
                      rcases hk with rfl | rfl
                      · by_cases hcc : c = 11
                        · have hb70 := hb.cut0 (k := 11) hcc (by omega)
                          subst hcc
                          go_wp2_with (go_at_call 63; refine hlg.mono ?_; rintro e w5 ⟨rfl, rfl⟩)
                          go_quiet (fail)
                          go_wp2
                          go_ret3
                          exact refEndL hb70 (t := 3) hq3.out rfl
                        · go_wp2_with (go_at_call 63; refine hlg.mono ?_; rintro e w5 ⟨rfl, rfl⟩)
                          go_quiet (fail)
                          go_wp2
                          go_ret3
                          exact refEndL hb7 (t := 3) hq3.out rfl
                      · by_cases hcc : c = 11
                        · have hb70 := hb.cut0 (k := 11) hcc (by omega)
                          subst hcc
                          go_wp2_with (go_at_call 63; refine hlg.mono ?_; rintro e w5 ⟨rfl, rfl⟩)
                          go_quiet (fail)
                          go_wp2
                          go_ret3
                          exact refEndL hb70 (t := 4) hq3.out rfl
                        · go_wp2_with (go_at_call 63; refine hlg.mono ?_; rintro e w5 ⟨rfl, rfl⟩)
                          go_quiet (fail)
                          go_wp2
                          go_ret3
                          exact refEndL hb7 (t := 4) hq3.out rfl
                · have u5 : ((L2 : Int) != (log : Int)) = true := by rw [bne_iff_ne]; omega
                  have hq3 : Hid (q = Nx.stop 2) := by
                    unfold Hid
                    rw [hq2.out, if_pos k5]
                  clear hq2
                  rcases hk with (rfl | rfl) | (rfl | rfl)
                  · go_wp2_with (go_at_call 63; refine hlg.mono ?_; rintro e w5 ⟨rfl, rfl⟩)
                    go_ret3
                    rw [hq3.out]
                    exact ⟨Below.refl _ _, rfl⟩
                  · go_wp2_with (go_at_call 63; refine hlg.mono ?_; rintro e w5 ⟨rfl, rfl⟩)
                    go_ret3
                    rw [hq3.out]
                    exact ⟨Below.refl _ _, rfl⟩
                  · go_wp2_with (go_at_call 63; refine hlg.mono ?_; rintro e w5 ⟨rfl, rfl⟩)
                    go_ret3
                    rw [hq3.out]
                    exact ⟨Below.refl _ _, rfl⟩
                  · go_wp2_with (go_at_call 63; refine hlg.mono ?_; rintro e w5 ⟨rfl, rfl⟩)
                    go_ret3
                    rw [hq3.out]
                    exact ⟨Below.refl _ _, rfl⟩
          · have u1 : ((M : Int) != (L : Int)) = true := by rw [bne_iff_ne]; omega
            go_wp2
            go_ret3
            rw [hq.out, if_pos j1]
            exact ⟨Below.refl _ _, rfl⟩
theorem refFrag_w (B n c left log : Nat) (rec begun : Bool) (A : Option Addr) (rest : List UInt8) (w : World) (h : Bsl w B A n c rest) (hB : B ≤ w.heap.size) :
    Calls Try.prog 43 #[.slice A n c, .int .i64 (left : Nat), .int .i64 (headOf rec : Nat), .int .u32 (log : Nat), .bool rec, .bool begun, .int .i64 (badOf rec : Nat)] w (RefPost w B (refP rest left log rec begun)) := by
  cases rec
  · exact refFragF_w B n c left log begun A rest w h hB
  · exact refFragT_w B n c left log begun A rest w h hB

theorem recycled_w (A : Option Addr) (n c : Nat) (xs : List UInt8) (w : World) (h : Bsl w w.heap.size A n c xs) :
    Calls Try.prog 39 #[.slice A n c] w fun e w' => e = .returned (.bool (recOf xs)) ∧ w' = w := by
  have hlen := h.len
  have hcap := h.cap
  have hbig := h.big
  unfold maxLen at hbig
  have hrec : Hid (recOf xs = (decide (7 ≤ xs.length) && (decide (4 < (xs.getD 6 0).toNat) && decide ((xs.getD 6 0).toNat ≤ 8)))) := rfl
  rw [hlen] at hrec
  by_cases h7 : 7 ≤ n
  · obtain ⟨g, o, rfl, hg, hcell⟩ := h.at_ (k := 6) (by omega)
    have hx := (xs.getD 6 0).toNat_lt
    generalize (xs.getD 6 0).toNat = k at *
    have t7 : decide ((7 : Int) ≤ (n : Int)) = true := by simp; omega
    by_cases k4 : 4 < k
    · have t4 : decide ((5 : Int) ≤ (k : Int)) = true := by simp; omega
      by_cases k8 : k ≤ 8
      · have t8 : decide ((k : Int) ≤ 8) = true := by simp; omega
        have hv : Hid (recOf xs = true) := by unfold Hid; rw [hrec.out]; simp; omega
        clear hrec
        go_enter Try.func39, Try.ntmps39
        go_wp2
        go_ret
        exact ⟨by rw [hv.out]; rfl, rfl⟩
      · have t8 : decide ((k : Int) ≤ 8) = false := by simp; omega
        have hv : Hid (recOf xs = false) := by unfold Hid; rw [hrec.out]; simp; omega
        clear hrec
        go_enter Try.func39, Try.ntmps39
        go_wp2
        go_ret
        exact ⟨by rw [hv.out]; rfl, rfl⟩
    · have t4 : decide ((5 : Int) ≤ (k : Int)) = false := by simp; omega
      have hv : Hid (recOf xs = false) := by unfold Hid; rw [hrec.out]; simp; omega
      clear hrec
      go_enter Try.func39, Try.ntmps39
      go_wp2
      go_ret
      exact ⟨by rw [hv.out]; rfl, rfl⟩
  · have t7 : decide ((7 : Int) ≤ (n : Int)) = false := by simp; omega
    have hv : Hid (recOf xs = false) := by unfold Hid; rw [hrec.out]; simp; omega
    clear hrec
    go_enter Try.func39, Try.ntmps39
    go_wp2
    go_ret
    exact ⟨by rw [hv.out]; rfl, rfl⟩
end Go.Proofs.Ytonhhbebpcaaeaa
