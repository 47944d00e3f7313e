/- From a row's reading of an argument to a slice of records. -/
import Derived.Test.YtonhhbebpcaaeaaRow
import Derived.Test.YtonhhbebpcaaeaaBatF
import Derived.Lib.SmallJoins
import Derived.Deep.Slices
import Derived.Test.YtonhhbebpcaaeaaApp
namespace Go.Proofs.Ytonhhbebpcaaeaa
open Go.ChangeShapes Go.WideShapes Go.ChangeAt Go.RowKit Go.Deep Go.Joins

section
variable {H : Type} {enc : TypeId × Value → H} {P : Program}
theorem weightsAll_mem {e : TypeId} {ds : List (DataW H)} {d : DataW H} (hd : d ∈ ds) {B : Nat} (h : (DataW.weightsAll P e ds).all (· ≤ B) = true) : (d.weights P e).all (· ≤ B) = true := by
  induction ds with
  | nil => cases hd
  | cons x ds ih =>
    simp only [DataW.weightsAll, List.all_append, Bool.and_eq_true] at h
    rcases List.mem_cons.1 hd with rfl | hd
    · exact h.1
    · exact ih hd h.2
/-- The cells from A on, as rows of k cells each read by f. -/
theorem rows_choose {α : Type} (n : Nat) (Q : Nat → α → Prop) (h : ∀ i, i < n → ∃ x, Q i x) : ∃ xs : List α, xs.length = n ∧ ∀ i x, xs[i]? = some x → Q i x := by
  induction n with
  | zero => exact ⟨[], rfl, by simp⟩
  | succ n ih =>
    obtain ⟨xs, hl, hq⟩ := ih fun i hi => h i (by omega)
    obtain ⟨x, hx⟩ := h n (by omega)
    refine ⟨xs ++ [x], by simp [hl], fun i y hy => ?_⟩
    rcases Nat.lt_or_ge i xs.length with h1 | h1
    · rw [List.getElem?_append_left h1] at hy
      exact hq i y hy
    · rw [List.getElem?_append_right h1] at hy
      have h2 : i - xs.length = 0 := by
        have := (List.getElem?_eq_some_iff.1 hy).1
        simp at this
        omega
      rw [h2] at hy
      simp at hy
      subst hy
      rw [show i = n by omega]
      exact hx
end

set_option maxRecDepth 100000 in
/-- A record's datum, opened. -/
theorem opened_rec {H : Type} {enc : TypeId × Value → H} {W : World} {fuel : Nat} {cs : List Value} {x : DataW H × List MemPlace} (h : DataW.trod enc Try.prog W 0 (fun _ => true) true fuel 44 cs = some x)
    (hw : (x.1.weights Try.prog 44).all (· ≤ reachBytes) = true) : ∃ r : Rec, r.Ok ∧ cs = rCells r := by
  obtain ⟨y0, y1, y2, y3, n, rfl, hlen, h0, h1, h2, h3⟩ := trod_struct4 Try.underlying44 h
  have hc : Try.prog.cellsOf 44 = 4 := by kernel_rfl
  have k0 : Try.prog.cellsOf 23 = 1 := by kernel_rfl
  have k1 : Try.prog.cellsOf 3 = 1 := by kernel_rfl
  have k2 : Try.prog.cellsOf 9 = 1 := by kernel_rfl
  rw [hc] at hlen
  match cs, hlen with
  | [c0, c1, c2, c3], _ =>
    simp only [k0, k1, k2, List.drop_zero, List.drop_succ_cons, List.take_succ_cons, List.take_zero] at h0 h1 h2 h3
    obtain ⟨f, g0, e0, w0⟩ := DataW.trod_int Try.underlying23 h0
    obtain ⟨k, g1, e1, w1⟩ := DataW.trod_int Try.underlying3 h1
    obtain ⟨s2, g2, e2, _⟩ := DataW.trod_string Try.underlying9 h2
    obtain ⟨s3, g3, e3, _⟩ := DataW.trod_string Try.underlying9 h3
    simp only [List.cons.injEq, and_true] at g0 g1 g2 g3
    subst g0 g1 g2 g3 e0 e1 e2 e3
    have m0 : IntKind.u32.min = 0 := rfl
    have m1 : IntKind.u32.max = 4294967295 := rfl
    have m2 : IntKind.i64.min = -9223372036854775808 := rfl
    have m3 : IntKind.i64.max = 9223372036854775807 := rfl
    simp only [Lit.wf, Bool.and_eq_true, decide_eq_true_eq, m0, m1, m2, m3] at w0 w1
    have hr : reachBytes ≤ maxB := by decide +kernel
    simp only [DataW.weights, Try.underlying44, DataW.weightsEach, List.map_cons, List.map_nil, List.all_cons, List.all_nil, List.append_nil, List.nil_append, List.cons_append, Bool.and_true, Bool.and_eq_true, decide_eq_true_eq] at hw
    obtain ⟨n, rfl⟩ := Int.eq_ofNat_of_zero_le w0.1
    refine ⟨⟨n, k, s2, s3⟩, ⟨by simp only; omega, by simp only; omega, by simp only; omega, ?_, ?_⟩, rfl⟩
    · have := hw.1; rw [Array.length_toList] at this; exact Nat.le_trans this hr
    · have := hw.2; rw [Array.length_toList] at this; exact Nat.le_trans this hr

set_option maxRecDepth 100000 in
theorem opened_rsl {H : Type} {enc : TypeId × Value → H} {W : World} {a0 : Option Addr} {len cap : Nat} {d0 : DataW H} {p : List MemPlace}
    (h0 : DataW.Trod enc Try.prog W 0 (fun _ => true) true 39 (.slice a0 len cap) d0 p) (hsz : (d0.weights Try.prog 39).all (· ≤ reachBytes) = true) :
    ∃ rs : List Rec, Rsl W W.heap.size a0 len cap rs := by
  obtain ⟨fuel, hf⟩ := h0
  have hc : Try.prog.cellsOf 44 = 4 := by kernel_rfl
  have hz : Try.prog.bytesOf 44 = 48 := by kernel_rfl
  rcases open_slice Try.underlying39 hf with ⟨hcs, hx⟩ | ⟨a, len', cap', m, n', D, Pl, hcs, _, hl, hm, hmm, hx, hi⟩
  · simp [Value.cells] at hcs
    obtain ⟨rfl, rfl, rfl⟩ := hcs
    exact ⟨[], rfl, Nat.le_refl _, by unfold maxLen; omega, by omega, .inl rfl, by simp⟩
  · simp [Value.cells] at hcs
    obtain ⟨rfl, rfl, rfl⟩ := hcs
    simp only [Prod.mk.injEq] at hx
    obtain ⟨rfl, rfl⟩ := hx
    simp only [if_true] at hmm
    subst hmm
    simp only [DataW.weights, Try.underlying39, List.all_cons, List.all_append, Bool.and_eq_true, decide_eq_true_eq, List.length_map, List.length_range, hz] at hsz
    obtain ⟨hs1, hs2, _⟩ := hsz
    have hr : reachBytes = 140737488351232 := by decide +kernel
    obtain ⟨rs, hrl, hrs⟩ := rows_choose (α := Rec) len (fun i r => r.Ok ∧ W.cells? 0 (a.add (i * 4)) 4 = some (rCells r)) fun i hil => by
      obtain ⟨cs', hcells, ht⟩ := hi i (by omega)
      rw [hc] at hcells
      obtain ⟨r, hr, rfl⟩ := opened_rec ht (weightsAll_mem (List.mem_map.2 ⟨i, List.mem_range.2 hil, rfl⟩) hs2)
      exact ⟨r, hr, hcells⟩
    refine ⟨rs, hrl, hl, hm, by omega, ?_, fun r hr => ?_⟩
    · rcases Nat.eq_zero_or_pos len with rfl | hpos
      · exact .inl (by rw [List.eq_nil_of_length_eq_zero hrl]; rfl)
      · have hat : ∀ i r, rs[i]? = some r → ∀ t u, (rCells r)[t]? = some u → W.cell? ((a.add (i * 4)).add t) = some u := fun i r hir t u htu => by
          obtain ⟨_, hl4, hcell⟩ := World.cells?_some (hrs i r hir).2
          have ht : t < 4 := by rw [← hl4]; exact (List.getElem?_eq_some_iff.1 htu).1
          rw [hcell t ht]; exact htu
        obtain ⟨r0, hr0⟩ : ∃ r, rs[0]? = some r := ⟨rs[0]'(by omega), List.getElem?_eq_getElem _⟩
        have h00 := hat 0 r0 hr0 0 _ rfl
        obtain ⟨b, off, s⟩ := a
        have hs : s = none := by
          have := World.cell?_spot h00
          simpa [Addr.add] using this
        subst hs
        have hb := World.block_lt_of_cell? _ _ h00
        have hb' : b < W.heap.size := by simpa [Addr.add] using hb
        refine .inr ⟨b, off, rfl, hb', fun j u hu => ?_⟩
        have hj : j < rs.length * 4 := by rw [← rAll_len]; exact (List.getElem?_eq_some_iff.1 hu).1
        have hir : rs[j / 4]? = some (rs[j / 4]'(by omega)) := List.getElem?_eq_getElem _
        have hg := rAll_get rs (j / 4) (j % 4) _ hir (by omega)
        rw [show j / 4 * 4 + j % 4 = j by omega] at hg
        have := hat _ _ hir (j % 4) u (by rw [← hg]; exact hu)
        have e : ((⟨b, off, none⟩ : Addr).add (j / 4 * 4)).add (j % 4) = ⟨b, off + j, none⟩ := by
          rw [addr_add, addr_add]
          congr 1
          omega
        rwa [e] at this
    · obtain ⟨i, hi'⟩ := List.getElem?_of_mem hr
      exact (hrs i r hi').1
end Go.Proofs.Ytonhhbebpcaaeaa
