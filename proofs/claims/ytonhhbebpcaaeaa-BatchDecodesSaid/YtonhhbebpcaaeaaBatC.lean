/- The bytes of a record: what they are, and the walk of batch.text. -/
import Derived.Test.YtonhhbebpcaaeaaBatB
import Derived.Test.YtonhhbebpcaaeaaWrA
namespace Go.Proofs.Ytonhhbebpcaaeaa
open Go.RowKit

def strB (s : ByteArray) : List UInt8 := s.data.toList
theorem strB_len (s : ByteArray) : (strB s).length = s.size := by unfold strB; rw [Array.length_toList]; rfl
theorem strCells_eB (s : ByteArray) : Lib.strCells s = (strB s).map eB := rfl
def textB (s : ByteArray) : List UInt8 := varB s.size ++ strB s
theorem textB_le {s : ByteArray} (h : s.size ≤ maxB) : (textB s).length ≤ 10 + s.size := by
  unfold maxB at h
  have := varB_le10 (n := s.size) (by omega)
  simp [textB, strB_len]
  omega
def recB (r : Rec) : List UInt8 := UInt8.ofNat (r.kind % 256).toNat :: (varB r.f ++ textB r.key ++ (if r.kind = 0 then [] else textB r.val))

set_option maxRecDepth 100000 in
set_option maxHeartbeats 1000000 in
theorem text_w (B : Nat) (v : Value) (acc : List UInt8) (s : ByteArray) (hs : acc.length + s.size ≤ 70368744177664) (w : World) (hown : w.ownsRow B 5 1 v acc.length (acc.map eB)) (hB : B ≤ w.heap.size) :
    Calls Try.prog 97 #[v, .string s] w fun e w' => ∃ v', e = .returned v' ∧ w'.ownsRow B 5 1 v' (acc ++ textB s).length ((acc ++ textB s).map eB) ∧ Below B w w' := by
  obtain ⟨i0, hi0, hz0, hz1, hz2⟩ := info_parts info_byte
  have hle := varB_le10 (n := s.size) (by omega)
  have hv := fun w => varint_w s.size (by omega) w
  go_enter Try.func97, Try.ntmps97
  go_wp2_with (first
    | (go_at_call 96; refine (hv _).mono ?_; rintro e w1 ⟨v1, rfl, hown1, hb1⟩; obtain ⟨A1, c1, rfl, _⟩ := own_form hown1; have hB1 : B ≤ w1.heap.size := by have := hb1.size; omega)
    | (at_builtin; refine wpList_append_rd _ rfl (.tmp 5) (.tmp 9) _ rfl B 5 i0 _ 1 1 Try.underlying22 hi0 hz0 hz1 hz2 rfl (by decide) _ _ _ rfl (own_below' hown hb1) w1.heap.size A1 (varB s.size).length c1 ((varB s.size).map eB) rfl (by simp) (Rd.of_own hown1) (eB_one _) (by unfold maxLen; omega) (by omega) hB1 ?_; intro v2 w2 hown2 hg2 _)
    | (at_builtin; refine Lib.wpList_append_own_string _ rfl (.tmp 10) (.tmp 11) _ _ rfl B 5 i0 Try.underlying22 Try.underlying9 hi0 hz0 hz1 hz2 _ _ _ rfl hown2 s rfl (by unfold maxLen; omega) (by omega) (by have := hg2.size; omega) ?_; intro v3 w3 hown3 hg3 _))
  have hb2 := below_app' (hb1.mono hB) (own_below' hown hb1) hB1 hg2 rfl
  have hb3 := below_app' hb2 hown2 (by have := hg2.size; omega) hg3 rfl
  go_ret
  refine ⟨v3, rfl, ?_, hb3⟩
  rw [strCells_eB] at hown3
  have e : acc.length + (varB s.size).length + s.size = (acc ++ textB s).length := by simp [textB, strB_len]; omega
  rw [e] at hown3
  simpa [textB] using hown3
end Go.Proofs.Ytonhhbebpcaaeaa
