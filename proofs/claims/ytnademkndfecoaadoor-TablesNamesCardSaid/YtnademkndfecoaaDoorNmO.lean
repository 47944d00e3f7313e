/- The document's numbers of names (sedimentref14.Number, sedimentref12.Number). -/
import Derived.Test.YtnademkndfecoaaDoorNmN
namespace Go.Proofs.YtnademkndfecoaaDoor
open Go.RowKit Go.Lib

theorem sz_list (s : ByteArray) : s.data.toList.length = s.size := by rw [Lib.size_eq]
theorem foldN_at {s : List UInt8} {k : Nat} (h : k < s.length) (a : Nat) : foldN a (s.drop k) = if 48 ≤ (s.getD k 0).toNat ∧ (s.getD k 0).toNat ≤ 57 then foldN ((10 * a % 18446744073709551616 + ((s.getD k 0).toNat - 48)) % 18446744073709551616) (s.drop (k + 1)) else a := by
  rw [List.drop_eq_getElem_cons h, show s.getD k 0 = s[k] by simp [h]]
  rfl

theorem num_not {pre post s : List UInt8} (hp : ∀ c r, post = c :: r → ¬(48 ≤ c.toNat ∧ c.toNat ≤ 57)) {a : Nat} (h : a = foldN 0 (s.drop pre.length)) (hq : ¬ nmL pre post a = s) : NumIs pre post s 0 false :=
  (numIs_ref hp).2 (by rw [← h]; exact fun e => hq e.symm)
theorem num_step (a x : Nat) (h1 : 48 ≤ x) (h2 : x < 256) : Value.int .u64 (IntKind.u64.wrap (IntKind.u64.wrap (10 * (a : Int)) + ((x : Int) - 48))) = Value.int .u64 (((10 * a % 18446744073709551616 + (x - 48)) % 18446744073709551616 : Nat) : Int) := by
  congr 1
  simp only [IntKind.wrap, IntKind.bits, IntKind.signed]
  simp
  omega

set_option maxHeartbeats 1000000 in
set_option maxRecDepth 100000 in
theorem refNumber14_w (s : ByteArray) (hs : s.size ≤ maxLen) (w : World) :
    Calls Tryd.prog 6 #[.string s] w fun e w' => (∃ (v : Nat) (b : Bool), e = .returned (.tuple #[.int .u64 v, .bool b]) ∧ NumIs [77, 65, 78, 73, 70, 69, 83, 84, 45] [] s.data.toList v b) ∧ Below w.heap.size w w' := by
  unfold maxLen at hs
  have hsl := sz_list s
  go_enter Tryd.func6, Tryd.ntmps6
  go_wp2
  go_loop [4, 5] (fun n i => ∃ (k a : Nat), i = .int .i64 k ∧ n = .int .u64 a ∧ 9 ≤ k ∧ (k ≤ 9 ∨ k ≤ s.size) ∧ a < 18446744073709551616 ∧ Hid (foldN a (s.data.toList.drop k) = foldN 0 (s.data.toList.drop 9))) (fun _ i => s.size + 9 - (RowKit.intOf i).toNat)
  case atStart => exact ⟨9, 0, rfl, rfl, by omega, by omega, by omega, rfl⟩
  case round =>
    obtain ⟨k, a, rfl, rfl, hk9, hk, ha, hH⟩ := hrel
    by_cases hlt : k < s.size
    · have hst := foldN_at (s := s.data.toList) (k := k) (by omega) a
      have ex : s.data.toList.getD k 0 = s[k] := by simp [hsl, hlt]; rfl
      rw [ex] at hst
      have hx := s[k].toNat_lt
      have t1 : decide ((k : Int) < (s.size : Int)) = true := by simp; omega
      by_cases hd : 48 ≤ s[k].toNat ∧ s[k].toNat ≤ 57
      · rw [if_pos hd] at hst
        rw [hst] at hH
        have t2 : decide ((s[k].toNat : Int) ≥ 48) = true := by simp; omega
        have t3 : decide ((s[k].toNat : Int) ≤ 57) = true := by simp; omega
        clear hst
        go_wp2
        go_round
        case rel => exact ⟨k + 1, _, by go_num, num_step a s[k].toNat hd.1 hx, by omega, by omega, by omega, hH⟩
        case measure => simp [RowKit.intOf]; omega
      · rw [if_neg hd] at hst
        rw [hst] at hH
        have hfin := hH
        clear hH hst
        by_cases hd1 : 48 ≤ s[k].toNat
        · have t2 : decide ((s[k].toNat : Int) ≥ 48) = true := by simp; omega
          have t3 : decide ((s[k].toNat : Int) ≤ 57) = false := by simp; omega
          by_cases hq : nmL [77, 65, 78, 73, 70, 69, 83, 84, 45] [] a = s.data.toList
          · have q1 : (!nmL [77, 65, 78, 73, 70, 69, 83, 84, 45] [] a == s.toList) = false := by rw [ByteArray.toList_eq, hq]; simp
            go_wp2_with (go_at_call 8; refine (refName14_w a ha _).mono ?_; rintro e w1 ⟨rfl, hb⟩)
            go_ret2
            exact ⟨⟨a, true, rfl, .inl ⟨rfl, ha, hq.symm⟩⟩, hb⟩
          · have q1 : (!nmL [77, 65, 78, 73, 70, 69, 83, 84, 45] [] a == s.toList) = true := by rw [ByteArray.toList_eq]; simp [hq]
            go_wp2_with (go_at_call 8; refine (refName14_w a ha _).mono ?_; rintro e w1 ⟨rfl, hb⟩)
            go_ret2
            exact ⟨⟨0, false, rfl, num_not (fun c r e => by cases e) hfin.out hq⟩, hb⟩
        · have t2 : decide ((s[k].toNat : Int) ≥ 48) = false := by simp; omega
          by_cases hq : nmL [77, 65, 78, 73, 70, 69, 83, 84, 45] [] a = s.data.toList
          · have q1 : (!nmL [77, 65, 78, 73, 70, 69, 83, 84, 45] [] a == s.toList) = false := by rw [ByteArray.toList_eq, hq]; simp
            go_wp2_with (go_at_call 8; refine (refName14_w a ha _).mono ?_; rintro e w1 ⟨rfl, hb⟩)
            go_ret2
            exact ⟨⟨a, true, rfl, .inl ⟨rfl, ha, hq.symm⟩⟩, hb⟩
          · have q1 : (!nmL [77, 65, 78, 73, 70, 69, 83, 84, 45] [] a == s.toList) = true := by rw [ByteArray.toList_eq]; simp [hq]
            go_wp2_with (go_at_call 8; refine (refName14_w a ha _).mono ?_; rintro e w1 ⟨rfl, hb⟩)
            go_ret2
            exact ⟨⟨0, false, rfl, num_not (fun c r e => by cases e) hfin.out hq⟩, hb⟩
    · have hfin : Hid (a = foldN 0 (s.data.toList.drop 9)) := by
        have := hH.out
        rwa [List.drop_of_length_le (by omega)] at this
      clear hH
      have t1 : decide ((k : Int) < (s.size : Int)) = false := by simp; omega
      by_cases hq : nmL [77, 65, 78, 73, 70, 69, 83, 84, 45] [] a = s.data.toList
      · have q1 : (!nmL [77, 65, 78, 73, 70, 69, 83, 84, 45] [] a == s.toList) = false := by rw [ByteArray.toList_eq, hq]; simp
        go_wp2_with (go_at_call 8; refine (refName14_w a ha _).mono ?_; rintro e w1 ⟨rfl, hb⟩)
        go_ret2
        exact ⟨⟨a, true, rfl, .inl ⟨rfl, ha, hq.symm⟩⟩, hb⟩
      · have q1 : (!nmL [77, 65, 78, 73, 70, 69, 83, 84, 45] [] a == s.toList) = true := by rw [ByteArray.toList_eq]; simp [hq]
        go_wp2_with (go_at_call 8; refine (refName14_w a ha _).mono ?_; rintro e w1 ⟨rfl, hb⟩)
        go_ret2
        exact ⟨⟨0, false, rfl, num_not (fun c r e => by cases e) hfin.out hq⟩, hb⟩

set_option maxHeartbeats 1000000 in
set_option maxRecDepth 100000 in
theorem refNumber12_w (s : ByteArray) (hs : s.size ≤ maxLen) (w : World) :
    Calls Tryd.prog 10 #[.string s] w fun e w' => (∃ (v : Nat) (b : Bool), e = .returned (.tuple #[.int .u64 v, .bool b]) ∧ NumIs [] [46, 115, 115, 116] s.data.toList v b) ∧ Below w.heap.size w w' := by
  unfold maxLen at hs
  have hsl := sz_list s
  go_enter Tryd.func10, Tryd.ntmps10
  go_wp2
  go_loop [4, 5] (fun n i => ∃ (k a : Nat), i = .int .i64 k ∧ n = .int .u64 a ∧ 0 ≤ k ∧ (k ≤ 0 ∨ k ≤ s.size) ∧ a < 18446744073709551616 ∧ Hid (foldN a (s.data.toList.drop k) = foldN 0 (s.data.toList.drop 0))) (fun _ i => s.size - (RowKit.intOf i).toNat)
  case atStart => exact ⟨0, 0, rfl, rfl, by omega, by omega, by omega, rfl⟩
  case round =>
    obtain ⟨k, a, rfl, rfl, hk9, hk, ha, hH⟩ := hrel
    by_cases hlt : k < s.size
    · have hst := foldN_at (s := s.data.toList) (k := k) (by omega) a
      have ex : s.data.toList.getD k 0 = s[k] := by simp [hsl, hlt]; rfl
      rw [ex] at hst
      have hx := s[k].toNat_lt
      have t1 : decide ((k : Int) < (s.size : Int)) = true := by simp; omega
      by_cases hd : 48 ≤ s[k].toNat ∧ s[k].toNat ≤ 57
      · rw [if_pos hd] at hst
        rw [hst] at hH
        have t2 : decide ((s[k].toNat : Int) ≥ 48) = true := by simp; omega
        have t3 : decide ((s[k].toNat : Int) ≤ 57) = true := by simp; omega
        clear hst
        go_wp2
        go_round
        case rel => exact ⟨k + 1, _, by go_num, num_step a s[k].toNat hd.1 hx, by omega, by omega, by omega, hH⟩
        case measure => simp [RowKit.intOf]; omega
      · rw [if_neg hd] at hst
        rw [hst] at hH
        have hfin := hH
        clear hH hst
        by_cases hd1 : 48 ≤ s[k].toNat
        · have t2 : decide ((s[k].toNat : Int) ≥ 48) = true := by simp; omega
          have t3 : decide ((s[k].toNat : Int) ≤ 57) = false := by simp; omega
          by_cases hq : nmL [] [46, 115, 115, 116] a = s.data.toList
          · have q1 : (!nmL [] [46, 115, 115, 116] a == s.toList) = false := by rw [ByteArray.toList_eq, hq]; simp
            go_wp2_with (go_at_call 12; refine (refName12_w a ha _).mono ?_; rintro e w1 ⟨rfl, hb⟩)
            go_ret2
            exact ⟨⟨a, true, rfl, .inl ⟨rfl, ha, hq.symm⟩⟩, hb⟩
          · have q1 : (!nmL [] [46, 115, 115, 116] a == s.toList) = true := by rw [ByteArray.toList_eq]; simp [hq]
            go_wp2_with (go_at_call 12; refine (refName12_w a ha _).mono ?_; rintro e w1 ⟨rfl, hb⟩)
            go_ret2
            exact ⟨⟨0, false, rfl, num_not (fun c r e => by cases e; decide) hfin.out hq⟩, hb⟩
        · have t2 : decide ((s[k].toNat : Int) ≥ 48) = false := by simp; omega
          by_cases hq : nmL [] [46, 115, 115, 116] a = s.data.toList
          · have q1 : (!nmL [] [46, 115, 115, 116] a == s.toList) = false := by rw [ByteArray.toList_eq, hq]; simp
            go_wp2_with (go_at_call 12; refine (refName12_w a ha _).mono ?_; rintro e w1 ⟨rfl, hb⟩)
            go_ret2
            exact ⟨⟨a, true, rfl, .inl ⟨rfl, ha, hq.symm⟩⟩, hb⟩
          · have q1 : (!nmL [] [46, 115, 115, 116] a == s.toList) = true := by rw [ByteArray.toList_eq]; simp [hq]
            go_wp2_with (go_at_call 12; refine (refName12_w a ha _).mono ?_; rintro e w1 ⟨rfl, hb⟩)
            go_ret2
            exact ⟨⟨0, false, rfl, num_not (fun c r e => by cases e; decide) hfin.out hq⟩, hb⟩
    · have hfin : Hid (a = foldN 0 (s.data.toList.drop 0)) := by
        have := hH.out
        rwa [List.drop_of_length_le (by omega)] at this
      clear hH
      have t1 : decide ((k : Int) < (s.size : Int)) = false := by simp; omega
      by_cases hq : nmL [] [46, 115, 115, 116] a = s.data.toList
      · have q1 : (!nmL [] [46, 115, 115, 116] a == s.toList) = false := by rw [ByteArray.toList_eq, hq]; simp
        go_wp2_with (go_at_call 12; refine (refName12_w a ha _).mono ?_; rintro e w1 ⟨rfl, hb⟩)
        go_ret2
        exact ⟨⟨a, true, rfl, .inl ⟨rfl, ha, hq.symm⟩⟩, hb⟩
      · have q1 : (!nmL [] [46, 115, 115, 116] a == s.toList) = true := by rw [ByteArray.toList_eq]; simp [hq]
        go_wp2_with (go_at_call 12; refine (refName12_w a ha _).mono ?_; rintro e w1 ⟨rfl, hb⟩)
        go_ret2
        exact ⟨⟨0, false, rfl, num_not (fun c r e => by cases e; decide) hfin.out hq⟩, hb⟩

end Go.Proofs.YtnademkndfecoaaDoor
