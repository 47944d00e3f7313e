/- The walk of the reference's Size. -/
import Derived.Test.YtonhhbebpcaaeaaBatD
namespace Go.Proofs.Ytonhhbebpcaaeaa
open Go.RowKit

set_option maxRecDepth 100000 in
set_option maxHeartbeats 4000000 in
theorem size_some (f : Nat) (k : Int) (key val : ByteArray) (hf : f < 4294967296) (hkn : k ≠ 0) (hval : val.size ≤ 16384) (hkey : key.size ≤ 1024) (w : World) :
    Calls Try.prog 98 #[.agg #[.int .u32 (f : Nat), .int .i64 k, .string key, .string val]] w fun e w' => e = .returned (.int .i64 (1 + (varB f).length + (textB key).length + (textB val).length : Nat)) ∧ Below w.heap.size w w' := by
  have hle := varB_le10 (n := f) (by omega)
  have hle1 := varB_le10 (n := key.size) (by omega)
  have e64 : IntKind.u64.wrap (f : Int) = f := by rw [wrap64]; omega
  have hv : ∀ w : World, Calls Try.prog 53 #[.int .u64 (IntKind.u64.wrap (f : Int))] w fun e w' => ∃ v, e = .returned v ∧ w'.ownsRow w.heap.size 5 1 v (varB f).length ((varB f).map eB) ∧ Below w.heap.size w w' := fun w => by rw [e64]; exact refVarint_w f (by omega) w
  have e65 : IntKind.u64.wrap (key.size : Int) = key.size := by rw [wrap64]; omega
  have hvk : ∀ w : World, Calls Try.prog 53 #[.int .u64 (IntKind.u64.wrap (key.size : Int))] w fun e w' => ∃ v, e = .returned v ∧ w'.ownsRow w.heap.size 5 1 v (varB key.size).length ((varB key.size).map eB) ∧ Below w.heap.size w w' := fun w => by rw [e65]; exact refVarint_w key.size (by omega) w
  clear e64 e65
  have hb0 : Below w.heap.size w (w.alloc (.cells #[.int .u32 f, .int .i64 k, .string key, .string val] 44)) := (Below.refl _ _).alloc (Nat.le_refl _) _
  have hB0 := Blk.new w 44 #[.int .u32 f, .int .i64 k, .string key, .string val]
  go_enter Try.func98, Try.ntmps98
  go_wp2_with fail
  go_region_held3 (fun w' => w'.cell? ⟨w.heap.size, 0, none⟩ = some (.int .u32 f) ∧ w'.cell? ⟨w.heap.size, 2, none⟩ = some (.string key))
    ((refine ⟨cell_of_blk (t := 44) (cs := #[.int .u32 (f : Nat), .int .i64 k, .string key, .string val]) ?_ rfl, cell_of_blk (t := 44) (cs := #[.int .u32 (f : Nat), .int .i64 k, .string key, .string val]) ?_ rfl⟩ <;> (repeat (with_reducible first | assumption | refine Blk.drew ?_ | refine Blk.alloc ?_ _))))
    ((first
      | (have _hs := hbw1
         go_at_call 53
         refine (hvk _).mono ?_
         rintro e w2 ⟨v2, rfl, hown2, hb2⟩
         obtain ⟨A2, c2, rfl, _⟩ := own_form hown2
         have hbw2 : Below w.heap.size w w2 := hbw1.trans (hb2.mono (by have := hbw1.size; omega))
         have hB2 : Blk w2 w.heap.size 44 #[.int .u32 (f : Nat), .int .i64 k, .string key, .string val] := Blk.ext hB1 hb2)
      | (go_at_call 53
         refine (hv _).mono ?_
         rintro e w1 ⟨v1, rfl, hown1, hb1⟩
         obtain ⟨A1, c1, rfl, _⟩ := own_form hown1
         have hbw1 : Below w.heap.size w w1 := below_thru hb0 hb1 (by simp)
         have hB1 : Blk w1 w.heap.size 44 #[.int .u32 (f : Nat), .int .i64 k, .string key, .string val] := Blk.ext (by repeat (with_reducible first | assumption | refine Blk.drew ?_ | refine Blk.alloc ?_ _)) hb1)))
  have E : IntKind.i64.wrap (IntKind.i64.wrap (IntKind.i64.wrap (1 + ↑(varB f).length) + ↑(varB key.size).length) + ↑key.size) = ((1 + (varB f).length + (textB key).length : Nat) : Int) := by
    rw [IntWalk.i64_in (1 + ↑(varB f).length) (by omega), IntWalk.i64_in (1 + ↑(varB f).length + ↑(varB key.size).length) (by omega), IntWalk.i64_in _ (by omega)]
    simp [textB, strB_len]
    omega
  have hlk := textB_le (s := key) (by unfold maxB; omega)
  rw [E]
  clear E
  have hT2 : 1 + (varB f).length + (textB key).length ≤ 2000 := by omega
  generalize hT : 1 + (varB f).length + (textB key).length = T at *
  have hT := hide hT
  have hd : (k != 0) = true := by simp; omega
  have hle3 := varB_le10 (n := val.size) (by omega)
  have e66 : IntKind.u64.wrap (val.size : Int) = val.size := by rw [wrap64]; omega
  have hvv : ∀ w : World, Calls Try.prog 53 #[.int .u64 (IntKind.u64.wrap (val.size : Int))] w fun e w' => ∃ v, e = .returned v ∧ w'.ownsRow w.heap.size 5 1 v (varB val.size).length ((varB val.size).map eB) ∧ Below w.heap.size w w' := fun w => by rw [e66]; exact refVarint_w val.size (by omega) w
  clear e66
  have c31 := hB2.cell 1
  simp only [List.getElem?_toArray, List.getElem?_cons_succ, List.getElem?_cons_zero] at c31
  have hs2 := hbw2.size
  go_wp2_with fail
  go_region_held3 (fun w' => w'.cell? ⟨w.heap.size, 3, none⟩ = some (.string val))
    ((refine cell_of_blk (t := 44) (cs := #[.int .u32 (f : Nat), .int .i64 k, .string key, .string val]) ?_ rfl <;> (repeat (with_reducible first | assumption | refine Blk.drew ?_ | refine Blk.alloc ?_ _))))
    ((go_at_call 53
      refine (hvv _).mono ?_
      rintro e w3 ⟨v3, rfl, hown3, hb3⟩
      obtain ⟨A3, c3, rfl, _⟩ := own_form hown3
      have hbw3 : Below w.heap.size w w3 := below_thru hbw2 hb3 hs2
      have hB3 : Blk w3 w.heap.size 44 #[.int .u32 (f : Nat), .int .i64 k, .string key, .string val] := Blk.ext (by repeat (with_reducible first | assumption | refine Blk.drew ?_ | refine Blk.alloc ?_ _)) hb3))
  have E : IntKind.i64.wrap (IntKind.i64.wrap (↑T + ↑(varB val.size).length) + ↑val.size) = ((T + (textB val).length : Nat) : Int) := by
    rw [IntWalk.i64_in (↑T + ↑(varB val.size).length) (by omega), IntWalk.i64_in _ (by omega)]
    simp [textB, strB_len]
    omega
  rw [E]
  clear E
  go_wp2
  go_ret
  exact ⟨ret_int (by rw [← hT.out]), hbw3⟩

set_option maxRecDepth 100000 in
set_option maxHeartbeats 4000000 in
theorem size_none (f : Nat) (k : Int) (key val : ByteArray) (hf : f < 4294967296) (hkn : Hid (k = 0)) (hkey : key.size ≤ 1024) (w : World) :
    Calls Try.prog 98 #[.agg #[.int .u32 (f : Nat), .int .i64 k, .string key, .string val]] w fun e w' => e = .returned (.int .i64 (1 + (varB f).length + (textB key).length : Nat)) ∧ Below w.heap.size w w' := by
  have hle := varB_le10 (n := f) (by omega)
  have hle1 := varB_le10 (n := key.size) (by omega)
  have e64 : IntKind.u64.wrap (f : Int) = f := by rw [wrap64]; omega
  have hv : ∀ w : World, Calls Try.prog 53 #[.int .u64 (IntKind.u64.wrap (f : Int))] w fun e w' => ∃ v, e = .returned v ∧ w'.ownsRow w.heap.size 5 1 v (varB f).length ((varB f).map eB) ∧ Below w.heap.size w w' := fun w => by rw [e64]; exact refVarint_w f (by omega) w
  have e65 : IntKind.u64.wrap (key.size : Int) = key.size := by rw [wrap64]; omega
  have hvk : ∀ w : World, Calls Try.prog 53 #[.int .u64 (IntKind.u64.wrap (key.size : Int))] w fun e w' => ∃ v, e = .returned v ∧ w'.ownsRow w.heap.size 5 1 v (varB key.size).length ((varB key.size).map eB) ∧ Below w.heap.size w w' := fun w => by rw [e65]; exact refVarint_w key.size (by omega) w
  clear e64 e65
  have hb0 : Below w.heap.size w (w.alloc (.cells #[.int .u32 f, .int .i64 k, .string key, .string val] 44)) := (Below.refl _ _).alloc (Nat.le_refl _) _
  have hB0 := Blk.new w 44 #[.int .u32 f, .int .i64 k, .string key, .string val]
  go_enter Try.func98, Try.ntmps98
  go_wp2_with fail
  go_region_held3 (fun w' => w'.cell? ⟨w.heap.size, 0, none⟩ = some (.int .u32 f) ∧ w'.cell? ⟨w.heap.size, 2, none⟩ = some (.string key))
    ((refine ⟨cell_of_blk (t := 44) (cs := #[.int .u32 (f : Nat), .int .i64 k, .string key, .string val]) ?_ rfl, cell_of_blk (t := 44) (cs := #[.int .u32 (f : Nat), .int .i64 k, .string key, .string val]) ?_ rfl⟩ <;> (repeat (with_reducible first | assumption | refine Blk.drew ?_ | refine Blk.alloc ?_ _))))
    ((first
      | (have _hs := hbw1
         go_at_call 53
         refine (hvk _).mono ?_
         rintro e w2 ⟨v2, rfl, hown2, hb2⟩
         obtain ⟨A2, c2, rfl, _⟩ := own_form hown2
         have hbw2 : Below w.heap.size w w2 := hbw1.trans (hb2.mono (by have := hbw1.size; omega))
         have hB2 : Blk w2 w.heap.size 44 #[.int .u32 (f : Nat), .int .i64 k, .string key, .string val] := Blk.ext hB1 hb2)
      | (go_at_call 53
         refine (hv _).mono ?_
         rintro e w1 ⟨v1, rfl, hown1, hb1⟩
         obtain ⟨A1, c1, rfl, _⟩ := own_form hown1
         have hbw1 : Below w.heap.size w w1 := below_thru hb0 hb1 (by simp)
         have hB1 : Blk w1 w.heap.size 44 #[.int .u32 (f : Nat), .int .i64 k, .string key, .string val] := Blk.ext (by repeat (with_reducible first | assumption | refine Blk.drew ?_ | refine Blk.alloc ?_ _)) hb1)))
  have E : IntKind.i64.wrap (IntKind.i64.wrap (IntKind.i64.wrap (1 + ↑(varB f).length) + ↑(varB key.size).length) + ↑key.size) = ((1 + (varB f).length + (textB key).length : Nat) : Int) := by
    rw [IntWalk.i64_in (1 + ↑(varB f).length) (by omega), IntWalk.i64_in (1 + ↑(varB f).length + ↑(varB key.size).length) (by omega), IntWalk.i64_in _ (by omega)]
    simp [textB, strB_len]
    omega
  have hlk := textB_le (s := key) (by unfold maxB; omega)
  rw [E]
  clear E
  have hT2 : 1 + (varB f).length + (textB key).length ≤ 2000 := by omega
  generalize hT : 1 + (varB f).length + (textB key).length = T at *
  have hT := hide hT
  have hd : (k != 0) = false := by rw [hkn.out]; rfl
  have c31 := hB2.cell 1
  simp only [List.getElem?_toArray, List.getElem?_cons_succ, List.getElem?_cons_zero] at c31
  go_wp2
  go_ret
  exact ⟨ret_int (by rw [← hT.out]), hbw2⟩

theorem recB_len (r : Rec) : (recB r).length = 1 + (varB r.f).length + (textB r.key).length + (if r.kind = 0 then 0 else (textB r.val).length) := by
  unfold recB
  split <;> simp <;> omega
theorem size_w (r : Rec) (hr : r.Ok) (hc : checkOf r = 0) (w : World) :
    Calls Try.prog 98 #[vRec r] w fun e w' => e = .returned (.int .i64 ((recB r).length : Nat)) ∧ Below w.heap.size w w' := by
  obtain ⟨hk, hkey, hval⟩ := check_in hc
  rw [recB_len]
  obtain ⟨f, k, key, val⟩ := r
  have hf := hr.f
  by_cases h0 : k = 0
  · have := size_none f k key val hf (hide h0) hkey w
    simpa [vRec, h0] using this
  · have := size_some f k key val hf h0 (hval h0) hkey w
    simpa [vRec, h0] using this
end Go.Proofs.Ytonhhbebpcaaeaa
