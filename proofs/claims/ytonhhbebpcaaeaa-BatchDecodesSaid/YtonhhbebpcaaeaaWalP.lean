/- The reading of a log, by definition: what both programs come to. Plain. -/
import Derived.Test.YtonhhbebpcaaeaaWalD
namespace Go.Proofs.Ytonhhbebpcaaeaa
open Go.RowKit

def recOf (xs : List UInt8) : Bool := decide (7 ≤ xs.length) && (decide (4 < (xs.getD 6 0).toNat) && decide ((xs.getD 6 0).toNat ≤ 8))

/-- The records, how it ends, and where: f rounds at most. -/
def readP (xs : List UInt8) (log : Nat) (rec : Bool) : Nat → Nat → Bool → List UInt8 → List (List UInt8) → Nat → List (List UInt8) × Nat × Nat
  | 0, _, _, _, acc, place => (acc, 0, place)
  | f + 1, pos, begun, now, acc, place =>
    match nextP xs log rec begun pos with
    | .stop how => (acc, how, place)
    | .frag t x =>
      if t = 2 ∨ t = 3 then readP xs log rec f (baseP xs rec pos + (headOf rec + x.length)) true (now ++ x) acc place
      else readP xs log rec f (baseP xs rec pos + (headOf rec + x.length)) false [] (acc ++ [now ++ x]) (baseP xs rec pos + (headOf rec + x.length))
/-- The whole. -/
def readAll (xs : List UInt8) (log : Nat) : List (List UInt8) × Nat × Nat := readP xs log (recOf xs) (xs.length + 1) 0 false [] [] 0

theorem readP_stop {xs : List UInt8} {log : Nat} {rec : Bool} {f pos : Nat} {begun : Bool} {now : List UInt8} {acc : List (List UInt8)} {place how : Nat} (h : nextP xs log rec begun pos = .stop how) (hf : 0 < f) :
    readP xs log rec f pos begun now acc place = (acc, how, place) := by
  obtain ⟨f, rfl⟩ : ∃ j, f = j + 1 := ⟨f - 1, by omega⟩
  simp only [readP, h]
theorem readP_mid {xs : List UInt8} {log : Nat} {rec : Bool} {f pos : Nat} {begun : Bool} {now x : List UInt8} {acc : List (List UInt8)} {place t : Nat} (h : nextP xs log rec begun pos = .frag t x) (hf : 0 < f) (ht : t = 2 ∨ t = 3) :
    readP xs log rec f pos begun now acc place = readP xs log rec (f - 1) (baseP xs rec pos + (headOf rec + x.length)) true (now ++ x) acc place := by
  obtain ⟨f, rfl⟩ : ∃ j, f = j + 1 := ⟨f - 1, by omega⟩
  simp only [readP, h, ht, if_true, Nat.add_sub_cancel]
theorem readP_end {xs : List UInt8} {log : Nat} {rec : Bool} {f pos : Nat} {begun : Bool} {now x : List UInt8} {acc : List (List UInt8)} {place t : Nat} (h : nextP xs log rec begun pos = .frag t x) (hf : 0 < f) (ht : ¬ (t = 2 ∨ t = 3)) :
    readP xs log rec f pos begun now acc place = readP xs log rec (f - 1) (baseP xs rec pos + (headOf rec + x.length)) false [] (acc ++ [now ++ x]) (baseP xs rec pos + (headOf rec + x.length)) := by
  obtain ⟨f, rfl⟩ : ∃ j, f = j + 1 := ⟨f - 1, by omega⟩
  simp only [readP, h, ht, if_false, Nat.add_sub_cancel]

theorem fragP_frag {log : Nat} {rec begun : Bool} {b x : List UInt8} {t : Nat} (h : fragP log rec begun b = .frag t x) : 1 ≤ t ∧ t ≤ 4 ∧ x = b.drop (headOf rec) := by
  unfold fragP at h
  split at h
  · cases h
  split at h
  · cases h
  split at h
  · cases h
  split at h
  · cases h
  split at h
  · cases h
  · injection h with h1 h2
    exact ⟨by omega, by omega, h2.symm⟩
theorem nextAt_frag {xs : List UInt8} {log : Nat} {rec begun : Bool} {pos t : Nat} {x : List UInt8} (h : nextAt xs log rec begun pos = .frag t x) (hp : pos ≤ xs.length) : 1 ≤ t ∧ t ≤ 4 ∧ pos + (headOf rec + x.length) ≤ xs.length := by
  unfold nextAt at h
  split at h
  · cases h
  split at h
  · cases h
  split at h
  · cases h
  split at h
  · cases h
  · obtain ⟨h1, h2, h3⟩ := fragP_frag h
    refine ⟨h1, h2, ?_⟩
    rw [h3, List.length_drop, List.length_take, List.length_drop]
    have : headOf rec ≤ sizeP rec (xs.drop pos) := by unfold sizeP; omega
    omega
theorem nextP_frag {xs : List UInt8} {log : Nat} {rec begun : Bool} {pos t : Nat} {x : List UInt8} (h : nextP xs log rec begun pos = .frag t x) (hp : pos ≤ xs.length) :
    1 ≤ t ∧ t ≤ 4 ∧ pos ≤ baseP xs rec pos ∧ baseP xs rec pos + (headOf rec + x.length) ≤ xs.length := by
  unfold nextP at h
  split at h
  · rename_i h1
    split at h
    · rename_i h2
      obtain ⟨a, b, c⟩ := nextAt_frag h (by omega)
      refine ⟨a, b, ?_⟩
      unfold baseP
      rw [if_pos ⟨h1, h2⟩]
      exact ⟨by omega, c⟩
    · split at h <;> cases h
  · rename_i h1
    obtain ⟨a, b, c⟩ := nextAt_frag h hp
    refine ⟨a, b, ?_⟩
    unfold baseP
    rw [if_neg (by omega)]
    exact ⟨by omega, c⟩

/-- The cells vals are slices that read as the rows of acc; none of them lies in a block of 'nos', nor below base. -/
def Recs (w : World) (base : Nat) (nos : Nat → Prop) (vals : List Value) (acc : List (List UInt8)) : Prop :=
  vals.length = acc.length ∧ ∀ (i : Nat) (r : List UInt8), acc[i]? = some r → ∃ A n c, vals[i]? = some (Value.slice A n c) ∧ Bsl w w.heap.size A n c r ∧ ∀ g o, A = some ⟨g, o, none⟩ → base ≤ g ∧ g < w.heap.size ∧ ¬ nos g
theorem Recs.nil (w : World) (base : Nat) (nos : Nat → Prop) : Recs w base nos [] [] := ⟨rfl, fun i r h => by simp at h⟩
theorem Recs.grown {w w' : World} {base : Nat} {nos nos' : Nat → Prop} {vals : List Value} {acc : List (List UInt8)} {row : Option Nat} (h : Recs w base nos vals acc) (hg : w.grownBy w' row) (hr : ∀ g, row = some g → base ≤ g → nos g)
    (hn : ∀ g, base ≤ g → g < w.heap.size → nos' g → nos g) : Recs w' base nos' vals acc := by
  refine ⟨h.1, fun i r hi => ?_⟩
  obtain ⟨A, n, c, h1, h2, h3⟩ := h.2 i r hi
  exact ⟨A, n, c, h1, (h2.grown hg (Nat.le_refl _) (fun g o e he => (h3 g o e).2.2 (hr g he.symm (h3 g o e).1))).more hg.size,
    fun g o e => ⟨(h3 g o e).1, Nat.lt_of_lt_of_le (h3 g o e).2.1 hg.size, fun hc => (h3 g o e).2.2 (hn g (h3 g o e).1 (h3 g o e).2.1 hc)⟩⟩
theorem Recs.snoc {w : World} {base : Nat} {nos : Nat → Prop} {vals : List Value} {acc : List (List UInt8)} (h : Recs w base nos vals acc) {A : Option Addr} {n c : Nat} {r : List UInt8} (h2 : Bsl w w.heap.size A n c r)
    (h3 : ∀ g o, A = some ⟨g, o, none⟩ → base ≤ g ∧ g < w.heap.size ∧ ¬ nos g) : Recs w base nos (vals ++ [Value.slice A n c]) (acc ++ [r]) := by
  refine ⟨by simp [h.1], fun i r' hi => ?_⟩
  rcases Nat.lt_or_ge i acc.length with hlt | hge
  · rw [List.getElem?_append_left hlt] at hi
    obtain ⟨A', n', c', g1, g2, g3⟩ := h.2 i r' hi
    exact ⟨A', n', c', by rw [List.getElem?_append_left (by rw [h.1]; exact hlt)]; exact g1, g2, g3⟩
  · rw [List.getElem?_append_right hge] at hi
    obtain rfl : i = acc.length := by
      have := (List.getElem?_eq_some_iff.1 hi).1
      simp at this
      omega
    simp at hi
    subst hi
    exact ⟨A, n, c, by rw [List.getElem?_append_right (by rw [h.1]; exact Nat.le_refl _), h.1]; simp, h2, h3⟩
theorem Recs.one {w : World} {base : Nat} {nos : Nat → Prop} {vals : List Value} {acc : List (List UInt8)} (h : Recs w base nos vals acc) : ∀ u ∈ vals, u.oneCell' = true := by
  intro u hu
  obtain ⟨i, hi⟩ := (List.mem_iff_getElem? (l := vals)).1 hu
  have hlt := (List.getElem?_eq_some_iff.1 hi).1
  obtain ⟨A, n, c, h1, _⟩ := h.2 i _ (List.getElem?_eq_getElem (by rw [← h.1]; exact hlt))
  rw [hi] at h1
  injection h1 with h1
  subst h1
  rfl
end Go.Proofs.Ytonhhbebpcaaeaa
