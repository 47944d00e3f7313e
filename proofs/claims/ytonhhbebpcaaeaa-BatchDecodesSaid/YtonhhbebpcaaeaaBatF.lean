/- Slices of records; the walk of the reference's Sizes. -/
import Derived.Test.YtonhhbebpcaaeaaBatE
namespace Go.Proofs.Ytonhhbebpcaaeaa
open Go.RowKit

def rCells (r : Rec) : List Value := [.int .u32 (r.f : Nat), .int .i64 r.kind, .string r.key, .string r.val]
def rAll (rs : List Rec) : List Value := rs.flatMap rCells
theorem rAll_len (rs : List Rec) : (rAll rs).length = rs.length * 4 := by
  induction rs with
  | nil => rfl
  | cons r rs ih => simp [rAll, rCells] at ih ⊢; omega
theorem rAll_get (rs : List Rec) (j i : Nat) (r : Rec) (hr : rs[j]? = some r) (hi : i < 4) : (rAll rs)[j * 4 + i]? = (rCells r)[i]? := by
  induction rs generalizing j with
  | nil => simp at hr
  | cons x rs ih =>
    cases j with
    | zero =>
      simp at hr; subst hr
      simp only [rAll, List.flatMap_cons, Nat.zero_mul, Nat.zero_add]
      rw [List.getElem?_append_left (by simp [rCells]; omega)]
    | succ j =>
      simp at hr
      have := ih j hr
      simp only [rAll, List.flatMap_cons] at this ⊢
      rw [List.getElem?_append_right (by simp [rCells]; omega)]
      rw [← this]
      congr 1
      simp [rCells]
      omega

/-- '.slice A n c' is a slice of the records rs. -/
structure Rsl (w : World) (B : Nat) (A : Option Addr) (n c : Nat) (rs : List Rec) : Prop where
  len : rs.length = n
  cap : n ≤ c
  big : c ≤ maxLen
  few : n ≤ 2932031007402
  rd : Rd w B A (rAll rs)
  ok : ∀ r ∈ rs, r.Ok
section
variable {w w' : World} {B B' : Nat} {A : Option Addr} {n c : Nat} {rs : List Rec}
theorem Rsl.below (h : Rsl w B A n c rs) (hb : Below B w w') : Rsl w' B A n c rs := { h with rd := h.rd.below hb }
theorem Rsl.more (h : Rsl w B A n c rs) (hB : B ≤ B') : Rsl w B' A n c rs := { h with rd := h.rd.more hB }
theorem Rsl.ext (h : Rsl w w.heap.size A n c rs) (hb : Below w.heap.size w w') : Rsl w' w'.heap.size A n c rs := { h with rd := h.rd.ext hb }
theorem Rsl.at_ (h : Rsl w B A n c rs) {k : Nat} (hk : k < n) : ∃ g o r, A = some ⟨g, o, none⟩ ∧ g < B ∧ rs[k]? = some r ∧ r.Ok ∧
    w.cell? ⟨g, o + k * 4, none⟩ = some (.int .u32 (r.f : Nat)) ∧ w.cell? ⟨g, o + k * 4 + 1, none⟩ = some (.int .i64 r.kind) ∧ w.cell? ⟨g, o + k * 4 + 2, none⟩ = some (.string r.key) ∧ w.cell? ⟨g, o + k * 4 + 3, none⟩ = some (.string r.val) := by
  have hl := h.len
  obtain ⟨r, hr⟩ : ∃ r, rs[k]? = some r := ⟨_, List.getElem?_eq_getElem (by omega)⟩
  have hg := fun i hi => rAll_get rs k i r hr hi
  have hrd := h.rd
  rcases hrd with h0 | ⟨g, o, e, hB, hc⟩
  · have := rAll_len rs
    rw [h0] at this
    simp at this
    omega
  · have f := fun i (hi : i < 4) u (hu : (rCells r)[i]? = some u) => hc (k * 4 + i) u ((hg i hi).trans hu)
    refine ⟨g, o, r, e, hB, hr, h.ok r (List.mem_of_getElem? hr), ?_, ?_, ?_, ?_⟩
    · exact f 0 (by omega) _ rfl
    · have := f 1 (by omega) _ rfl
      rwa [← Nat.add_assoc] at this
    · have := f 2 (by omega) _ rfl
      rwa [← Nat.add_assoc] at this
    · have := f 3 (by omega) _ rfl
      rwa [← Nat.add_assoc] at this
end

def sizesOf : List Rec → Nat
  | [] => 0
  | r :: rs => (recB r).length + sizesOf rs

theorem sizesOf_append (a b : List Rec) : sizesOf (a ++ b) = sizesOf a + sizesOf b := by
  induction a with
  | nil => simp [sizesOf]
  | cons x a ih => simp [sizesOf, ih]; omega
theorem sizesOf_take (rs : List Rec) (k : Nat) (r : Rec) (hr : rs[k]? = some r) : sizesOf (rs.take (k + 1)) = sizesOf (rs.take k) + (recB r).length := by
  rw [List.take_add_one, hr, sizesOf_append]
  simp [sizesOf]
theorem recB_le (r : Rec) (hr : r.Ok) (hc : checkOf r = 0) : 1 ≤ (recB r).length ∧ (recB r).length ≤ 20000 := by
  obtain ⟨hk, hkey, hval⟩ := check_in hc
  have h1 := varB_le10 (n := r.f) (by have := hr.f; omega)
  have h2 := textB_le hr.key
  have h3 := textB_le hr.val
  rw [recB_len]
  split
  · omega
  · rename_i h0
    have := hval h0
    omega
theorem sizesOf_le (rs : List Rec) (ho : ∀ r ∈ rs, r.Ok) (hc : ∀ r ∈ rs, checkOf r = 0) : sizesOf rs ≤ rs.length * 20000 := by
  induction rs with
  | nil => simp [sizesOf]
  | cons x rs ih =>
    have := recB_le x (ho x (by simp)) (hc x (by simp))
    have := ih (fun r h => ho r (List.mem_cons_of_mem _ h)) (fun r h => hc r (List.mem_cons_of_mem _ h))
    simp only [sizesOf, List.length_cons]
    omega

set_option maxRecDepth 100000 in
set_option maxHeartbeats 2000000 in
theorem sizes_w (A : Option Addr) (n c : Nat) (rs : List Rec) (w : World) (h : Rsl w w.heap.size A n c rs) (hc : ∀ r ∈ rs, checkOf r = 0) (hn : n ≤ 4096) :
    Calls Try.prog 51 #[.slice A n c] w fun e w' => e = .returned (.int .i64 (12 + sizesOf rs : Nat)) ∧ Below w.heap.size w w' := by
  have hl := h.len
  have hcap := h.cap
  have hbig := h.big
  unfold maxLen at hbig
  go_enter Try.func51, Try.ntmps51
  go_wp2
  go_loopw [3, 4] (fun s i wr => ∃ (k : Nat), k ≤ n ∧ i = .int .i64 k ∧ Below w.heap.size w wr ∧ s = .int .i64 (12 + sizesOf (rs.take k) : Nat)) (fun _ i _ => n - (intOf i).toNat)
  case atStart => exact ⟨0, by omega, rfl, Below.refl _ _, rfl⟩
  case round =>
    obtain ⟨k, hk, rfl, hbw, rfl⟩ := hrel
    by_cases hlt : k < n
    · have h' := (h.below hbw).more hbw.size
      obtain ⟨g, o, r, rfl, hg, hr, hok, c0, c1, c2, c3⟩ := h'.at_ hlt
      have hsz := size_w r hok (hc r (List.mem_of_getElem? hr))
      go_wp2_with fail
      go_at_call 98
      refine (hsz wr).mono ?_
      rintro e w2 ⟨rfl, hb2⟩
      have hst := hide (sizesOf_take rs k r hr)
      have hle1 := recB_le r hok (hc r (List.mem_of_getElem? hr))
      have hle2 := sizesOf_le (rs.take k) (fun r h => h'.ok r (List.mem_of_mem_take h)) (fun r h => hc r (List.mem_of_mem_take h))
      rw [List.length_take] at hle2
      have hs := hbw.size
      clear hsz
      generalize (recB r).length = L at *
      generalize sizesOf (rs.take k) = S at *
      go_wp2
      go_roundw
      case rel => exact ⟨k + 1, by omega, by go_num, hbw.trans (hb2.mono hs), by rw [hst.out]; go_num⟩
      case measure => simp [intOf]; omega
    · obtain rfl : k = n := by omega
      go_wp2
      go_ret
      exact ⟨ret_int (by rw [List.take_of_length_le (by omega)]), hbw⟩
end Go.Proofs.Ytonhhbebpcaaeaa
