/- Bytes as a string: the conversion of a slice that reads as bytes. -/
import Derived.Test.YtnademkndfecoaaDoorMem
import Derived.Laws.BytesString
namespace Go.Proofs.YtnademkndfecoaaDoor
open Go.RowKit

theorem foldl_push (xs : List UInt8) : ∀ s : ByteArray, (xs.map (fun x => (x.toNat : Int))).foldl (fun r n => r.push (UInt8.ofNat n.toNat)) s = ⟨s.data ++ xs.toArray⟩ := by
  induction xs with
  | nil => intro s; simp
  | cons x xs ih =>
    intro s
    rw [List.map_cons, List.foldl_cons, ih]
    simp [ByteArray.push]

theorem run_conv_str {P : Program} {src dst e : TypeId} (hs : P.underlying src = some (.slice e)) (he : P.underlying e = some (.int .u8)) (hd : P.underlying dst = some .string)
    {w : World} {B : Nat} {A : Option Addr} {n c : Nat} {xs : List UInt8} (h : Bsl w B A n c xs) : (convert src dst (.slice A n c)).run P w = .ok (.string ⟨xs.toArray⟩) w := by
  rw [run_convert_bytes_string w src dst e A n c hs he hd]
  have hl := h.len
  cases A with
  | none =>
    have hx : xs = [] := by
      rcases h.rd with h1 | ⟨g, o, e, _⟩
      · simpa using h1
      · cases e
    subst hx
    rfl
  | some a =>
    have hc : ∀ (j : Nat) (v : Value), (xs.map eB)[j]? = some v → w.cell? (a.add j) = some v := by
      intro j v hv
      obtain ⟨g, o, e1, _, hc⟩ := h.rd.get hv
      injection e1 with e1
      subst e1
      unfold Addr.add
      split
      · rename_i h0; subst h0; exact hc
      · exact hc
    have h2 := run_loadCells_list (P := P) w a (xs.map eB) hc
    rw [List.length_map, hl] at h2
    have h3 := run_bytesToString (P := P) w a n c (xs.map (fun x => (x.toNat : Int))) (by rw [List.map_map]; exact h2)
    rw [h3, foldl_push]
    simp
theorem str_eq_iff (a b : List UInt8) : ((⟨a.toArray⟩ : ByteArray) = ⟨b.toArray⟩) ↔ a = b := by
  constructor
  · intro h
    have := congrArg ByteArray.data h
    simpa using this
  · rintro rfl; rfl
end Go.Proofs.YtnademkndfecoaaDoor
