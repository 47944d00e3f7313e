/- The walk of batch.bytes. -/
import Derived.Test.YtonhhbebpcaaeaaBatC
import Derived.Deep.RegionHeld3
namespace Go.Proofs.Ytonhhbebpcaaeaa
open Go.RowKit

theorem Blk.drew {w : World} {g : Nat} {t : TypeId} {cs : Array Value} (h : Blk w g t cs) : Blk w.drew g t cs := h
theorem own_drew {w : World} {b : Nat} {e : TypeId} {s : Nat} {v : Value} {n : Nat} {xs : List Value} (h : w.ownsRow b e s v n xs) : w.drew.ownsRow b e s v n xs := h
theorem own_below_d {w w' : World} {b : Nat} {e : TypeId} {s : Nat} {v : Value} {n : Nat} {xs : List Value} (h : w.ownsRow b e s v n xs) (hb : Below w.drew.heap.size w.drew w') : w'.ownsRow b e s v n xs := own_below' (own_drew h) hb
theorem below_thru {B : Nat} {w W w' : World} (h : Below B w W) (hb : Below W.drew.heap.size W.drew w') (hB : B ≤ W.heap.size) : Below B w w' :=
  (show Below B w W.drew from ⟨h.os, h.tape, h.output, h.size, h.block⟩).trans (hb.mono (by simpa using hB))
theorem cell_of_blk {w : World} {g : Nat} {t : TypeId} {cs : Array Value} {i : Nat} {u : Value} (h : Blk w g t cs) (hu : cs[i]? = some u) : w.cell? ⟨g, i, none⟩ = some u := by rw [h.cell, hu]
theorem check_in {r : Rec} (hc : checkOf r = 0) : (r.kind = 0 ∨ r.kind = 1 ∨ r.kind = 2) ∧ r.key.size ≤ 1024 ∧ (r.kind ≠ 0 → r.val.size ≤ 16384) := by
  unfold checkOf mostOf at hc
  by_cases h1 : r.kind < 0 ∨ 2 < r.kind
  · rw [if_pos h1] at hc; cases hc
  · rw [if_neg h1] at hc
    by_cases h2 : 1024 < r.key.size ∨ (if r.kind = 1 then 16384 else if r.kind = 2 then 1024 else r.val.size) < r.val.size
    · rw [if_pos h2] at hc; cases hc
    · rw [not_or] at h2
      refine ⟨by omega, by omega, fun h0 => ?_⟩
      have h3 := h2.2
      rcases (show r.kind = 1 ∨ r.kind = 2 by omega) with h | h
      · rw [if_pos h] at h3; omega
      · rw [if_neg (by omega), if_pos h] at h3; omega

set_option maxRecDepth 100000 in
set_option maxHeartbeats 4000000 in
theorem bytes_some (f : Nat) (k : Int) (key val : ByteArray) (hf : f < 4294967296) (hkn : k ≠ 0) (hval : val.size ≤ 16384) (hkey : key.size ≤ 1024) (w : World) :
    Calls Try.prog 49 #[.agg #[.int .u32 (f : Nat), .int .i64 k, .string key, .string val]] w fun e w' => ∃ v, e = .returned v ∧ w'.ownsRow w.heap.size 5 1 v (UInt8.ofNat (k % 256).toNat :: (varB f ++ textB key ++ textB val)).length ((UInt8.ofNat (k % 256).toNat :: (varB f ++ textB key ++ textB val)).map eB) ∧ Below w.heap.size w w' := by
  obtain ⟨i0, hi0, hz0, hz1, hz2⟩ := info_parts info_byte
  have hle := varB_le10 (n := f) (by omega)
  have e64 : IntKind.u64.wrap (f : Int) = f := by rw [wrap64]; omega
  have hv : ∀ w : World, Calls Try.prog 96 #[.int .u64 (IntKind.u64.wrap (f : Int))] w fun e w' => ∃ v, e = .returned v ∧ w'.ownsRow w.heap.size 5 1 v (varB f).length ((varB f).map eB) ∧ Below w.heap.size w w' := fun w => by rw [e64]; exact varint_w f (by omega) w
  clear e64
  have hb0 : Below w.heap.size w (w.alloc (.cells #[.int .u32 f, .int .i64 k, .string key, .string val] 44)) := (Below.refl _ _).alloc (Nat.le_refl _) _
  have hB0 := Blk.new w 44 #[.int .u32 f, .int .i64 k, .string key, .string val]
  have hG := World.ownsRow_lit (w.alloc (.cells #[.int .u32 f, .int .i64 k, .string key, .string val] 44)) (e := 5) (size := 1) (base := w.heap.size + 1) #[.int .u8 (IntKind.u8.wrap k)] 1 (by simp) (by unfold maxLen; omega) (by simp)
  rw [show (w.alloc (.cells #[.int .u32 (f : Nat), .int .i64 k, .string key, .string val] 44)).heap.size = w.heap.size + 1 by simp] at hG
  have hlen : ((varB f).map eB).length = (varB f).length * 1 := by simp
  have hml : 1 + (varB f).length ≤ maxLen := by unfold maxLen; omega
  have hbytes : (1 + (varB f).length) * 1 ≤ 140737488355328 := by omega
  have hpos : 0 < 1 := by omega
  have hneL : some w.heap.size ≠ (Value.slice (some ⟨w.heap.size + 1, 0, none⟩) 1 1).ownBlock := by simp [Value.ownBlock]
  go_enter Try.func49, Try.ntmps49
  go_wp2_with fail
  go_region_held3 (fun w' => w'.cell? ⟨w.heap.size, 0, none⟩ = some (.int .u32 f) ∧ w'.cell? ⟨w.heap.size, 1, none⟩ = some (.int .i64 k))
    ((refine ⟨cell_of_blk (t := 44) (cs := #[.int .u32 (f : Nat), .int .i64 k, .string key, .string val]) ?_ rfl, cell_of_blk (t := 44) (cs := #[.int .u32 (f : Nat), .int .i64 k, .string key, .string val]) ?_ rfl⟩ <;> (repeat (with_reducible first | assumption | refine Blk.drew ?_ | refine Blk.alloc ?_ _))))
    ((first
      | (go_at_call 96
         refine (hv _).mono ?_
         rintro e w1 ⟨v1, rfl, hown1, hb1⟩
         obtain ⟨A1, c1, rfl, _⟩ := own_form hown1
         have hB1 : Blk w1 w.heap.size 44 #[.int .u32 (f : Nat), .int .i64 k, .string key, .string val] := Blk.ext (by repeat (with_reducible first | assumption | refine Blk.drew ?_ | refine Blk.alloc ?_ _)) hb1
         have hbs : w.heap.size + 1 ≤ w1.heap.size := by have := hb1.size; simp at this; omega
         have hbw1 : Below w.heap.size w w1 := by first | exact below_thru hb0 hb1 (by simp) | exact below_thru (hb0.alloc (by simp) _) hb1 (by simp; omega)
         have hRd := Rd.of_own hown1
         have hbsM : w.heap.size + 1 ≤ (w1.alloc (.cells #[.int .u8 (IntKind.u8.wrap k)] 5)).heap.size := by simp; omega
         have hRdM := (Rd.of_own (hown1.alloc (.cells #[.int .u8 (IntKind.u8.wrap k)] 5)))
         have hownM := World.ownsRow_lit w1 (e := 5) (size := 1) (base := w.heap.size + 1) #[.int .u8 (IntKind.u8.wrap k)] 1 hbs (by unfold maxLen; omega) (by simp)
         have hneM : some w.heap.size ≠ (Value.slice (some ⟨w1.heap.size, 0, none⟩) 1 1).ownBlock := by simp [Value.ownBlock]; omega
         first
           | (have hownL : w1.ownsRow (w.heap.size + 1) 5 1 (.slice (some ⟨w.heap.size + 1, 0, none⟩) 1 1) 1 [.int .u8 (IntKind.u8.wrap k)]   := own_below_d hG hb1)
           | skip)
      | ((refine step_append_rd _ (by rfl) (.tmp 7) (.tmp 11) _ (by rfl) (w.heap.size + 1) 5 i0 _ 1 1 Try.underlying22 hi0 hz0 hz1 hz2 rfl hpos _ 1 [.int .u8 (IntKind.u8.wrap k)] (by rfl) hownL _ A1 (varB f).length c1 ((varB f).map eB) (by rfl) hlen hRd (eB_one _) hml hbytes hbs ?_)
         intro v2 w2 hown2 hg2 _
         have hbw2 := below_app' hbw1 (own_base hownL (by omega)) (by omega) hg2 rfl
         have hB2 := Blk.grown hB1 hg2 hneL)
      | ((refine step_append_rd _ (by rfl) (.tmp 7) (.tmp 11) _ (by rfl) (w.heap.size + 1) 5 i0 _ 1 1 Try.underlying22 hi0 hz0 hz1 hz2 rfl hpos _ 1 [.int .u8 (IntKind.u8.wrap k)] (by rfl) hownM _ A1 (varB f).length c1 ((varB f).map eB) (by rfl) hlen hRdM (eB_one _) hml hbytes hbsM ?_)
         intro v2 w2 hown2 hg2 _
         have hbw2 := below_app' (hbw1.alloc (by omega) _) (own_base hownM (by omega)) (by simp; omega) hg2 rfl
         have hB2 := Blk.grown (hB1.alloc _) hg2 hneM)))
  all_goals
    have hacc : [Value.int .u8 (IntKind.u8.wrap k)] ++ (varB f).map eB = (UInt8.ofNat (k % 256).toNat :: varB f).map eB := by
      rw [IntKind.wrap_u8']
      simp only [List.map_cons, List.cons_append, List.nil_append, eB, UInt8.toNat_ofNat']
      congr 2
      omega
    have hnum : 1 + (varB f).length = (UInt8.ofNat (k % 256).toNat :: varB f).length := by simp; omega
    rw [hacc, hnum] at hown2
    have hs2 := hbw2.size
    have hG2 : w.heap.size + 1 ≤ w2.heap.size := hB2.lt
    have hacc2 : (UInt8.ofNat (k % 256).toNat :: varB f).length ≤ 11 := by simp; omega
    have hcons : UInt8.ofNat (k % 256).toNat :: (varB f ++ textB key ++ textB val) = (UInt8.ofNat (k % 256).toNat :: varB f) ++ textB key ++ textB val := by simp
    have hcons0 : UInt8.ofNat (k % 256).toNat :: (varB f ++ textB key) = (UInt8.ofNat (k % 256).toNat :: varB f) ++ textB key := by simp
    generalize UInt8.ofNat (k % 256).toNat :: varB f = acc at *
    have hle1 := textB_le (s := key) (by unfold maxB; omega)
    have ht1 := text_w (w.heap.size + 1) v2 acc key (by omega) w2 hown2 hG2
    have c1 := hB2.cell 1
    have c2 := hB2.cell 2
    simp only [List.getElem?_toArray, List.getElem?_cons_succ, List.getElem?_cons_zero] at c1 c2
    go_wp2_with fail
    go_at_call 97
    refine ht1.mono ?_
    rintro e w3 ⟨v3, rfl, hown3, hb3⟩
    have hB3 := hB2.below hb3 (by omega)
    have hs3 := hb3.size
    have c31 := hB3.cell 1
    have c33 := hB3.cell 3
    simp only [List.getElem?_toArray, List.getElem?_cons_succ, List.getElem?_cons_zero] at c31 c33
    have hd : (k != 0) = true := by simp; omega
    have hlen3 : (acc ++ textB key).length ≤ 2000 := by simp; omega
    have ht2 := text_w (w.heap.size + 1) v3 (acc ++ textB key) val (by omega) w3 hown3 (by omega)
    go_wp2_with fail
    go_at_call 97
    refine ht2.mono ?_
    rintro e w4 ⟨v4, rfl, hown4, hb4⟩
    go_wp2
    go_ret
    have hfin : w4.ownsRow w.heap.size 5 1 v4 (UInt8.ofNat (k % 256).toNat :: (varB f ++ textB key ++ textB val)).length ((UInt8.ofNat (k % 256).toNat :: (varB f ++ textB key ++ textB val)).map eB) := by
      rw [hcons]
      exact own_base hown4 (Nat.le_succ _)
    exact ⟨v4, rfl, hfin, hbw2.trans ((hb3.trans hb4).mono (by omega))⟩

set_option maxRecDepth 100000 in
set_option maxHeartbeats 4000000 in
theorem bytes_none (f : Nat) (k : Int) (key val : ByteArray) (hf : f < 4294967296) (hkn : Hid (k = 0)) (hkey : key.size ≤ 1024) (w : World) :
    Calls Try.prog 49 #[.agg #[.int .u32 (f : Nat), .int .i64 k, .string key, .string val]] w fun e w' => ∃ v, e = .returned v ∧ w'.ownsRow w.heap.size 5 1 v (UInt8.ofNat (k % 256).toNat :: (varB f ++ textB key)).length ((UInt8.ofNat (k % 256).toNat :: (varB f ++ textB key)).map eB) ∧ Below w.heap.size w w' := by
  obtain ⟨i0, hi0, hz0, hz1, hz2⟩ := info_parts info_byte
  have hle := varB_le10 (n := f) (by omega)
  have e64 : IntKind.u64.wrap (f : Int) = f := by rw [wrap64]; omega
  have hv : ∀ w : World, Calls Try.prog 96 #[.int .u64 (IntKind.u64.wrap (f : Int))] w fun e w' => ∃ v, e = .returned v ∧ w'.ownsRow w.heap.size 5 1 v (varB f).length ((varB f).map eB) ∧ Below w.heap.size w w' := fun w => by rw [e64]; exact varint_w f (by omega) w
  clear e64
  have hb0 : Below w.heap.size w (w.alloc (.cells #[.int .u32 f, .int .i64 k, .string key, .string val] 44)) := (Below.refl _ _).alloc (Nat.le_refl _) _
  have hB0 := Blk.new w 44 #[.int .u32 f, .int .i64 k, .string key, .string val]
  have hG := World.ownsRow_lit (w.alloc (.cells #[.int .u32 f, .int .i64 k, .string key, .string val] 44)) (e := 5) (size := 1) (base := w.heap.size + 1) #[.int .u8 (IntKind.u8.wrap k)] 1 (by simp) (by unfold maxLen; omega) (by simp)
  rw [show (w.alloc (.cells #[.int .u32 (f : Nat), .int .i64 k, .string key, .string val] 44)).heap.size = w.heap.size + 1 by simp] at hG
  have hlen : ((varB f).map eB).length = (varB f).length * 1 := by simp
  have hml : 1 + (varB f).length ≤ maxLen := by unfold maxLen; omega
  have hbytes : (1 + (varB f).length) * 1 ≤ 140737488355328 := by omega
  have hpos : 0 < 1 := by omega
  have hneL : some w.heap.size ≠ (Value.slice (some ⟨w.heap.size + 1, 0, none⟩) 1 1).ownBlock := by simp [Value.ownBlock]
  go_enter Try.func49, Try.ntmps49
  go_wp2_with fail
  go_region_held3 (fun w' => w'.cell? ⟨w.heap.size, 0, none⟩ = some (.int .u32 f) ∧ w'.cell? ⟨w.heap.size, 1, none⟩ = some (.int .i64 k))
    ((refine ⟨cell_of_blk (t := 44) (cs := #[.int .u32 (f : Nat), .int .i64 k, .string key, .string val]) ?_ rfl, cell_of_blk (t := 44) (cs := #[.int .u32 (f : Nat), .int .i64 k, .string key, .string val]) ?_ rfl⟩ <;> (repeat (with_reducible first | assumption | refine Blk.drew ?_ | refine Blk.alloc ?_ _))))
    ((first
      | (go_at_call 96
         refine (hv _).mono ?_
         rintro e w1 ⟨v1, rfl, hown1, hb1⟩
         obtain ⟨A1, c1, rfl, _⟩ := own_form hown1
         have hB1 : Blk w1 w.heap.size 44 #[.int .u32 (f : Nat), .int .i64 k, .string key, .string val] := Blk.ext (by repeat (with_reducible first | assumption | refine Blk.drew ?_ | refine Blk.alloc ?_ _)) hb1
         have hbs : w.heap.size + 1 ≤ w1.heap.size := by have := hb1.size; simp at this; omega
         have hbw1 : Below w.heap.size w w1 := by first | exact below_thru hb0 hb1 (by simp) | exact below_thru (hb0.alloc (by simp) _) hb1 (by simp; omega)
         have hRd := Rd.of_own hown1
         have hbsM : w.heap.size + 1 ≤ (w1.alloc (.cells #[.int .u8 (IntKind.u8.wrap k)] 5)).heap.size := by simp; omega
         have hRdM := (Rd.of_own (hown1.alloc (.cells #[.int .u8 (IntKind.u8.wrap k)] 5)))
         have hownM := World.ownsRow_lit w1 (e := 5) (size := 1) (base := w.heap.size + 1) #[.int .u8 (IntKind.u8.wrap k)] 1 hbs (by unfold maxLen; omega) (by simp)
         have hneM : some w.heap.size ≠ (Value.slice (some ⟨w1.heap.size, 0, none⟩) 1 1).ownBlock := by simp [Value.ownBlock]; omega
         first
           | (have hownL : w1.ownsRow (w.heap.size + 1) 5 1 (.slice (some ⟨w.heap.size + 1, 0, none⟩) 1 1) 1 [.int .u8 (IntKind.u8.wrap k)]   := own_below_d hG hb1)
           | skip)
      | ((refine step_append_rd _ (by rfl) (.tmp 7) (.tmp 11) _ (by rfl) (w.heap.size + 1) 5 i0 _ 1 1 Try.underlying22 hi0 hz0 hz1 hz2 rfl hpos _ 1 [.int .u8 (IntKind.u8.wrap k)] (by rfl) hownL _ A1 (varB f).length c1 ((varB f).map eB) (by rfl) hlen hRd (eB_one _) hml hbytes hbs ?_)
         intro v2 w2 hown2 hg2 _
         have hbw2 := below_app' hbw1 (own_base hownL (by omega)) (by omega) hg2 rfl
         have hB2 := Blk.grown hB1 hg2 hneL)
      | ((refine step_append_rd _ (by rfl) (.tmp 7) (.tmp 11) _ (by rfl) (w.heap.size + 1) 5 i0 _ 1 1 Try.underlying22 hi0 hz0 hz1 hz2 rfl hpos _ 1 [.int .u8 (IntKind.u8.wrap k)] (by rfl) hownM _ A1 (varB f).length c1 ((varB f).map eB) (by rfl) hlen hRdM (eB_one _) hml hbytes hbsM ?_)
         intro v2 w2 hown2 hg2 _
         have hbw2 := below_app' (hbw1.alloc (by omega) _) (own_base hownM (by omega)) (by simp; omega) hg2 rfl
         have hB2 := Blk.grown (hB1.alloc _) hg2 hneM)))
  all_goals
    have hacc : [Value.int .u8 (IntKind.u8.wrap k)] ++ (varB f).map eB = (UInt8.ofNat (k % 256).toNat :: varB f).map eB := by
      rw [IntKind.wrap_u8']
      simp only [List.map_cons, List.cons_append, List.nil_append, eB, UInt8.toNat_ofNat']
      congr 2
      omega
    have hnum : 1 + (varB f).length = (UInt8.ofNat (k % 256).toNat :: varB f).length := by simp; omega
    rw [hacc, hnum] at hown2
    have hs2 := hbw2.size
    have hG2 : w.heap.size + 1 ≤ w2.heap.size := hB2.lt
    have hacc2 : (UInt8.ofNat (k % 256).toNat :: varB f).length ≤ 11 := by simp; omega
    have hcons : UInt8.ofNat (k % 256).toNat :: (varB f ++ textB key ++ textB val) = (UInt8.ofNat (k % 256).toNat :: varB f) ++ textB key ++ textB val := by simp
    have hcons0 : UInt8.ofNat (k % 256).toNat :: (varB f ++ textB key) = (UInt8.ofNat (k % 256).toNat :: varB f) ++ textB key := by simp
    generalize UInt8.ofNat (k % 256).toNat :: varB f = acc at *
    have hle1 := textB_le (s := key) (by unfold maxB; omega)
    have ht1 := text_w (w.heap.size + 1) v2 acc key (by omega) w2 hown2 hG2
    have c1 := hB2.cell 1
    have c2 := hB2.cell 2
    simp only [List.getElem?_toArray, List.getElem?_cons_succ, List.getElem?_cons_zero] at c1 c2
    go_wp2_with fail
    go_at_call 97
    refine ht1.mono ?_
    rintro e w3 ⟨v3, rfl, hown3, hb3⟩
    have hB3 := hB2.below hb3 (by omega)
    have hs3 := hb3.size
    have c31 := hB3.cell 1
    have c33 := hB3.cell 3
    simp only [List.getElem?_toArray, List.getElem?_cons_succ, List.getElem?_cons_zero] at c31 c33
    have hd : (k != 0) = false := by rw [hkn.out]; rfl
    go_wp2
    go_ret
    have hfin : w3.ownsRow w.heap.size 5 1 v3 (UInt8.ofNat (k % 256).toNat :: (varB f ++ textB key)).length ((UInt8.ofNat (k % 256).toNat :: (varB f ++ textB key)).map eB) := by
      rw [hcons0]
      exact own_base hown3 (Nat.le_succ _)
    exact ⟨v3, rfl, hfin, hbw2.trans (hb3.mono (by omega))⟩

theorem bytes_w (r : Rec) (hr : r.Ok) (hc : checkOf r = 0) (w : World) :
    Calls Try.prog 49 #[vRec r] w fun e w' => ∃ v, e = .returned v ∧ w'.ownsRow w.heap.size 5 1 v (recB r).length ((recB r).map eB) ∧ Below w.heap.size w w' := by
  obtain ⟨hk, hkey, hval⟩ := check_in hc
  obtain ⟨f, k, key, val⟩ := r
  have hf := hr.f
  by_cases h0 : k = 0
  · have := bytes_none f k key val hf (hide h0) hkey w
    simpa [recB, vRec, h0] using this
  · have := bytes_some f k key val hf h0 (hval h0) hkey w
    simpa [recB, vRec, h0] using this
end Go.Proofs.Ytonhhbebpcaaeaa
