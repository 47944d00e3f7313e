/- A reader through a store at a cell that holds a slice. -/
import Derived.Test.YtonhhbebpcaaeaaDecI
namespace Go.Proofs.Ytonhhbebpcaaeaa
open Go.RowKit
theorem Brd.store {w : World} {R X : Nat} {xs : List UInt8} {A' : Option Addr} {n' c' : Nat} (h : Brd w R xs) (hX : X ≠ R) (hs : w.cell? ⟨X, 0, none⟩ = some (.slice A' n' c')) (v : Value) : Brd (w.setCell ⟨X, 0, none⟩ v) R xs := by
  obtain ⟨A, n, c, hB, hb⟩ := h
  refine ⟨A, n, c, hB.far (p := ⟨X, 0, none⟩) (by simp; omega) v, { hb with rd := ?_ }⟩
  rcases hb.rd with h0 | ⟨g, o, e, hg, hc⟩
  · exact .inl h0
  · refine .inr ⟨g, o, e, hg, fun j u hu => ?_⟩
    have h1 := hc j u hu
    by_cases hgx : X = g
    · subst hgx
      by_cases ho : o + j = 0
      · rw [ho] at h1
        rw [hs] at h1
        obtain ⟨x, _, rfl⟩ := List.mem_map.1 (List.mem_of_getElem? hu)
        cases h1
      · rw [← h1]
        exact World.cell?_setCell_other _ _ _ _ (fun e => ho (by injection e with _ e2; exact e2.symm))
    · rw [← h1]
      exact World.cell?_setCell_far _ _ _ _ (by simpa using hgx)
end Go.Proofs.Ytonhhbebpcaaeaa
