/- The document's names (sedimentref14.Name, sedimentref12.Name): the digits one by one from behind. -/
import Derived.Test.YtnademkndfecoaaDoorNmF
import Derived.Test.YtnademkndfecoaaDoorMem
import Derived.Test.YtnademkndfecoaaDoorStr
namespace Go.Proofs.YtnademkndfecoaaDoor
open Go.RowKit Go.Lib

def strLen : Value → Nat
  | .string b => b.size
  | _ => 0
theorem sz_arr (l : List UInt8) : (⟨l.toArray⟩ : ByteArray).size = l.length := by rw [Lib.size_eq]
theorem one_conv (w : World) (c : Nat) (hc : c < 256) : (convert 27 9 (.slice (some ⟨w.heap.size, 0, none⟩) 1 1)).run Tryd.prog (w.alloc (.cells #[.int .u8 (c : Int)] 5)) = .ok (.string ⟨[UInt8.ofNat c].toArray⟩) (w.alloc (.cells #[.int .u8 (c : Int)] 5)) := by
  refine run_convert_bytes_back (P := Tryd.prog) _ 27 9 5 ⟨w.heap.size, 0, none⟩ 1 [UInt8.ofNat c] Tryd.underlying27 Tryd.underlying5 Tryd.underlying9 (fun j hj => ?_)
  obtain rfl : j = 0 := by simp at hj; omega
  rw [Lib.add_plain, World.cell?_alloc_new]
  simp [UInt8.toNat_ofNat', Nat.mod_eq_of_lt hc]
theorem d10 (m : Nat) : (48 + m % 10) < 256 := by omega

set_option maxHeartbeats 1000000 in
set_option maxRecDepth 100000 in
theorem refName14_w (u : Nat) (hu64 : u < 18446744073709551616) (w : World) :
    Calls Tryd.prog 8 #[.int .u64 u] w fun e w' => e = .returned (.string ⟨(nmL [77, 65, 78, 73, 70, 69, 83, 84, 45] [] u).toArray⟩) ∧ Below w.heap.size w w' := by
  have hl20 := digs6_len hu64
  go_enter Tryd.func8, Tryd.ntmps8
  go_wp2
  generalize hG : w.heap.size = G at *
  have hG2 := hide hG
  have hb1 : Below G w w := Below.refl _ _
  clear hG
  go_loopw [3, 0] (fun v i wr => ∃ (m : Nat) (l : List UInt8), i = .int .u64 m ∧ m < 18446744073709551616 ∧ v = .string ⟨l.toArray⟩ ∧ digs (6 - l.length) m ++ l = digs 6 u ∧ Below G w wr) (fun v i _ => (RowKit.intOf i).toNat + (6 - strLen v))
  case atStart => exact ⟨u, [], rfl, hu64, rfl, by simp, hb1⟩
  case round =>
    obtain ⟨m, l, rfl, hm, rfl, heq, hbw⟩ := hrel
    have hls : (⟨l.toArray⟩ : ByteArray).size = l.length := sz_arr l
    have hll : (digs (6 - l.length) m).length + l.length ≤ 20 := by rw [← List.length_append, heq]; exact hl20
    have hsz : G ≤ wr.heap.size := by have h1 := hbw.size; have h2 := hG2.out; omega
    by_cases hend : m = 0 ∧ 6 ≤ l.length
    · obtain ⟨rfl, h6⟩ := hend
      have t2 : decide ((l.length : Int) < 6) = false := by simp; omega
      have n1 : ¬ 9223372036854775807 < 9 + l.length := by omega
      rw [show 6 - l.length = 0 by omega, digs_nil, List.nil_append] at heq
      subst heq
      go_wp2
      go_ret
      refine ⟨congrArg (fun x => Ending.returned (Value.string x)) ?_, by rw [hG2.out]; exact hbw⟩
      rw [show (⟨#[77, 65, 78, 73, 70, 69, 83, 84, 45]⟩ : ByteArray) = ⟨[77, 65, 78, 73, 70, 69, 83, 84, 45].toArray⟩ from rfl, ba_app]
      unfold nmL
      rw [List.append_nil]
    · have hst := digs_step (k := 6 - l.length) (n := m) (by omega)
      rw [hst, List.append_assoc] at heq
      have hll' : (digs (6 - l.length - 1) (m / 10)).length + (l.length + 1) ≤ 20 := by
        have := congrArg List.length heq
        simp only [List.length_append, List.length_cons, List.length_nil] at this
        omega
      have n1 : ¬ 9223372036854775807 < 1 + l.length := by omega
      have n2 : ¬ 9223372036854775807 < l.length + 1 := by omega
      by_cases hm0 : m = 0
      · subst hm0
        have t2 : decide ((l.length : Int) < 6) = true := by simp; omega
        have hcv := one_conv wr 48 (by omega)
        rw [show ((48 : Nat) : Int) = 48 from rfl] at hcv
        change digs _ _ ++ ([UInt8.ofNat 48] ++ l) = _ at heq
        generalize UInt8.ofNat 48 = ch at hcv heq
        go_wp2
        go_roundw
        case rel => exact ⟨0 / 10, _, by go_num, by omega, congrArg Value.string (ba_app [ch] l), by rw [List.length_append, show 6 - ([ch].length + l.length) = 6 - l.length - 1 by simp; omega]; exact heq, hbw.alloc hsz _⟩
        case measure => rw [show (⟨#[ch]⟩ : ByteArray) ++ ⟨l.toArray⟩ = ⟨([ch] ++ l).toArray⟩ from ba_app [ch] l]; simp only [strLen, sz_arr, List.length_append, List.length_singleton, RowKit.intOf]; omega
      · have hcv := one_conv wr (48 + m % 10) (d10 m)
        rw [show ((48 + m % 10 : Nat) : Int) = 48 + (m : Int) % 10 by omega] at hcv
        generalize UInt8.ofNat (48 + m % 10) = ch at hcv heq
        have t1 : decide ((m : Int) > 0) = true := by simp; omega
        go_wp2
        go_roundw
        case rel => exact ⟨m / 10, _, by go_num, by omega, congrArg Value.string (ba_app [ch] l), by rw [List.length_append, show 6 - ([ch].length + l.length) = 6 - l.length - 1 by simp; omega]; exact heq, hbw.alloc hsz _⟩
        case measure => rw [show (⟨#[ch]⟩ : ByteArray) ++ ⟨l.toArray⟩ = ⟨([ch] ++ l).toArray⟩ from ba_app [ch] l]; simp only [strLen, sz_arr, List.length_append, List.length_singleton, RowKit.intOf]; omega

set_option maxHeartbeats 1000000 in
set_option maxRecDepth 100000 in
theorem refName12_w (u : Nat) (hu64 : u < 18446744073709551616) (w : World) :
    Calls Tryd.prog 12 #[.int .u64 u] w fun e w' => e = .returned (.string ⟨(nmL [] [46, 115, 115, 116] u).toArray⟩) ∧ Below w.heap.size w w' := by
  have hl20 := digs6_len hu64
  go_enter Tryd.func12, Tryd.ntmps12
  go_wp2
  generalize hG : w.heap.size = G at *
  have hG2 := hide hG
  have hb1 : Below G w w := Below.refl _ _
  clear hG
  go_loopw [3, 0] (fun v i wr => ∃ (m : Nat) (l : List UInt8), i = .int .u64 m ∧ m < 18446744073709551616 ∧ v = .string ⟨l.toArray⟩ ∧ digs (6 - l.length) m ++ l = digs 6 u ∧ Below G w wr) (fun v i _ => (RowKit.intOf i).toNat + (6 - strLen v))
  case atStart => exact ⟨u, [], rfl, hu64, rfl, by simp, hb1⟩
  case round =>
    obtain ⟨m, l, rfl, hm, rfl, heq, hbw⟩ := hrel
    have hls : (⟨l.toArray⟩ : ByteArray).size = l.length := sz_arr l
    have hll : (digs (6 - l.length) m).length + l.length ≤ 20 := by rw [← List.length_append, heq]; exact hl20
    have hsz : G ≤ wr.heap.size := by have h1 := hbw.size; have h2 := hG2.out; omega
    by_cases hend : m = 0 ∧ 6 ≤ l.length
    · obtain ⟨rfl, h6⟩ := hend
      have t2 : decide ((l.length : Int) < 6) = false := by simp; omega
      have n1 : ¬ 9223372036854775807 < l.length + 4 := by omega
      rw [show 6 - l.length = 0 by omega, digs_nil, List.nil_append] at heq
      subst heq
      go_wp2
      go_ret
      refine ⟨congrArg (fun x => Ending.returned (Value.string x)) ?_, by rw [hG2.out]; exact hbw⟩
      rw [show (⟨#[46, 115, 115, 116]⟩ : ByteArray) = ⟨[46, 115, 115, 116].toArray⟩ from rfl, ba_app]
      rfl
    · have hst := digs_step (k := 6 - l.length) (n := m) (by omega)
      rw [hst, List.append_assoc] at heq
      have hll' : (digs (6 - l.length - 1) (m / 10)).length + (l.length + 1) ≤ 20 := by
        have := congrArg List.length heq
        simp only [List.length_append, List.length_cons, List.length_nil] at this
        omega
      have n1 : ¬ 9223372036854775807 < 1 + l.length := by omega
      have n2 : ¬ 9223372036854775807 < l.length + 1 := by omega
      by_cases hm0 : m = 0
      · subst hm0
        have t2 : decide ((l.length : Int) < 6) = true := by simp; omega
        have hcv := one_conv wr 48 (by omega)
        rw [show ((48 : Nat) : Int) = 48 from rfl] at hcv
        change digs _ _ ++ ([UInt8.ofNat 48] ++ l) = _ at heq
        generalize UInt8.ofNat 48 = ch at hcv heq
        go_wp2
        go_roundw
        case rel => exact ⟨0 / 10, _, by go_num, by omega, congrArg Value.string (ba_app [ch] l), by rw [List.length_append, show 6 - ([ch].length + l.length) = 6 - l.length - 1 by simp; omega]; exact heq, hbw.alloc hsz _⟩
        case measure => rw [show (⟨#[ch]⟩ : ByteArray) ++ ⟨l.toArray⟩ = ⟨([ch] ++ l).toArray⟩ from ba_app [ch] l]; simp only [strLen, sz_arr, List.length_append, List.length_singleton, RowKit.intOf]; omega
      · have hcv := one_conv wr (48 + m % 10) (d10 m)
        rw [show ((48 + m % 10 : Nat) : Int) = 48 + (m : Int) % 10 by omega] at hcv
        generalize UInt8.ofNat (48 + m % 10) = ch at hcv heq
        have t1 : decide ((m : Int) > 0) = true := by simp; omega
        go_wp2
        go_roundw
        case rel => exact ⟨m / 10, _, by go_num, by omega, congrArg Value.string (ba_app [ch] l), by rw [List.length_append, show 6 - ([ch].length + l.length) = 6 - l.length - 1 by simp; omega]; exact heq, hbw.alloc hsz _⟩
        case measure => rw [show (⟨#[ch]⟩ : ByteArray) ++ ⟨l.toArray⟩ = ⟨([ch] ++ l).toArray⟩ from ba_app [ch] l]; simp only [strLen, sz_arr, List.length_append, List.length_singleton, RowKit.intOf]; omega
end Go.Proofs.YtnademkndfecoaaDoor
