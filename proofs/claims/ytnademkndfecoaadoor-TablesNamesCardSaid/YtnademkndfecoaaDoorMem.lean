/- My words for memory: a slice that reads as a list of values or of bytes (nil let in), and how these facts are kept. -/
import Derived.WalkKit
import Derived.Below
import Derived.Laws.OwnMore
import Derived.Deep.AppendLies
import Derived.Deep.Draws
import Derived.Maps.AppendAt
import Derived.OwnWalk
import Derived.RegionTactic
namespace Go.Proofs.YtnademkndfecoaaDoor
open Go.RowKit

/-- The cells from A on read as vs; they lie below block B. -/
def Rd (w : World) (B : Nat) (A : Option Addr) (vs : List Value) : Prop :=
  vs = [] ∨ ∃ g o, A = some ⟨g, o, none⟩ ∧ g < B ∧ ∀ j u, vs[j]? = some u → w.cell? ⟨g, o + j, none⟩ = some u

section
variable {w w' : World} {B B' : Nat} {A : Option Addr} {vs : List Value}
theorem Rd.nil (w : World) (B : Nat) (A : Option Addr) : Rd w B A [] := .inl rfl
theorem Rd.get (h : Rd w B A vs) {k : Nat} {u : Value} (hk : vs[k]? = some u) : ∃ g o, A = some ⟨g, o, none⟩ ∧ g < B ∧ w.cell? ⟨g, o + k, none⟩ = some u := by
  rcases h with rfl | ⟨g, o, e, hg, hc⟩
  · simp at hk
  · exact ⟨g, o, e, hg, hc k u hk⟩
theorem Rd.keep (h : Rd w B A vs) (hk : ∀ p : Addr, p.block < B → w'.cell? p = w.cell? p) : Rd w' B A vs := by
  rcases h with rfl | ⟨g, o, e, hg, hc⟩
  · exact .inl rfl
  · exact .inr ⟨g, o, e, hg, fun j u hu => (hk _ hg).trans (hc j u hu)⟩
theorem Rd.more (h : Rd w B A vs) (hB : B ≤ B') : Rd w B' A vs := by
  rcases h with rfl | ⟨g, o, e, hg, hc⟩
  · exact .inl rfl
  · exact .inr ⟨g, o, e, by omega, hc⟩
theorem Rd.below (h : Rd w B A vs) (hb : Below B w w') : Rd w' B A vs := h.keep fun _ hp => hb.cell hp
theorem Rd.ext (h : Rd w w.heap.size A vs) (hb : Below w.heap.size w w') : Rd w' w'.heap.size A vs := (h.below hb).more hb.size
theorem Rd.drop (h : Rd w B A vs) {k cap n : Nat} (hv : vs.length = n) (hk : k ≤ n) (hc : n ≤ cap) :
    Rd w B (if cap = k then A else A.map (·.add k)) (vs.drop k) := by
  rcases h with rfl | ⟨g, o, e, hg, hcell⟩
  · exact .inl (by simp)
  · by_cases hkn : k = vs.length
    · exact .inl (by simp [hkn])
    · rw [if_neg (by omega)]
      refine .inr ⟨g, o + k, ?_, hg, fun j u hu => ?_⟩
      · subst e
        by_cases h0 : k = 0
        · simp [Addr.add, h0]
        · simp [Addr.add, h0]
      · rw [Nat.add_assoc]
        exact hcell _ u (by rw [← hu, List.getElem?_drop])
theorem Rd.drop_cell {g o : Nat} (hcell : ∀ j u, vs[j]? = some u → w.cell? ⟨g, o + j, none⟩ = some u) (hg : g < B) (k : Nat) : Rd w B (some ⟨g, o + k, none⟩) (vs.drop k) :=
  .inr ⟨g, o + k, rfl, hg, fun j u hu => by rw [Nat.add_assoc]; exact hcell _ u (by rw [← hu, List.getElem?_drop])⟩
theorem Rd.take (h : Rd w B A vs) (k : Nat) : Rd w B A (vs.take k) := by
  rcases h with rfl | ⟨g, o, e, hg, hc⟩
  · exact .inl (by simp)
  · refine .inr ⟨g, o, e, hg, fun j u hu => hc j u ?_⟩
    rw [List.getElem?_take] at hu
    split at hu
    · exact hu
    · simp at hu
theorem Rd.of_own {base : Nat} {e : TypeId} {n c : Nat} (h : w.ownsRow base e 1 (.slice A n c) n vs) : Rd w w.heap.size A vs := by
  rcases Nat.eq_zero_or_pos n with h0 | h0
  · subst h0
    exact .inl (List.eq_nil_of_length_eq_zero (by simpa using h.1))
  · obtain ⟨g, cap, hv, _, hlt⟩ := h.form h0
    have hA : A = some ⟨g, 0, none⟩ := by injection hv
    subst hA
    refine .inr ⟨g, 0, rfl, hlt, fun j u hu => ?_⟩
    have := h.cells (g := g) rfl j u hu
    have e : (⟨g, 0, none⟩ : Addr).add j = ⟨g, 0 + j, none⟩ := by
      unfold Addr.add; split
      · rename_i h0; rw [h0]
      · rfl
    rwa [e] at this
end

/-- A byte as a value. -/
def eB (x : UInt8) : Value := .int .u8 (x.toNat : Int)
theorem eB_one (xs : List UInt8) : ∀ u ∈ xs.map eB, u.oneCell' = true := by
  intro u hu
  obtain ⟨x, _, rfl⟩ := List.mem_map.1 hu
  rfl

/-- What a slice of bytes takes at most. -/
def maxB : Nat := 140737488355328

/-- '.slice A n c' is a slice of the bytes xs. -/
structure Bsl (w : World) (B : Nat) (A : Option Addr) (n c : Nat) (xs : List UInt8) : Prop where
  len : xs.length = n
  cap : n ≤ c
  big : c ≤ maxLen
  few : n ≤ maxB
  rd : Rd w B A (xs.map eB)

section
variable {w w' : World} {B B' : Nat} {A : Option Addr} {n c : Nat} {xs : List UInt8}
theorem Bsl.below (h : Bsl w B A n c xs) (hb : Below B w w') : Bsl w' B A n c xs := { h with rd := h.rd.below hb }
theorem Bsl.more (h : Bsl w B A n c xs) (hB : B ≤ B') : Bsl w B' A n c xs := { h with rd := h.rd.more hB }
theorem Bsl.ext (h : Bsl w w.heap.size A n c xs) (hb : Below w.heap.size w w') : Bsl w' w'.heap.size A n c xs := { h with rd := h.rd.ext hb }
theorem Bsl.keep (h : Bsl w B A n c xs) (hk : ∀ p : Addr, p.block < B → w'.cell? p = w.cell? p) : Bsl w' B A n c xs := { h with rd := h.rd.keep hk }
theorem Bsl.at_ (h : Bsl w B A n c xs) {k : Nat} (hk : k < n) : ∃ g o, A = some ⟨g, o, none⟩ ∧ g < B ∧ w.cell? ⟨g, o + k, none⟩ = some (.int .u8 ((xs.getD k 0).toNat : Int)) := by
  have hl := h.len
  obtain ⟨g, o, e, hg, hc⟩ := h.rd.get (k := k) (u := eB (xs.getD k 0)) (by simp [List.getD, (by omega : k < xs.length)])
  exact ⟨g, o, e, hg, hc⟩
theorem Bsl.take (h : Bsl w B A n c xs) {k : Nat} (hk : k ≤ n) : Bsl w B A k c (xs.take k) :=
  ⟨by simp [h.len]; omega, Nat.le_trans hk h.cap, h.big, Nat.le_trans hk h.few, by rw [List.map_take]; exact h.rd.take k⟩
theorem Bsl.drop (h : Bsl w B A n c xs) {k : Nat} (hk : k ≤ n) : Bsl w B (if c = k then A else A.map (·.add k)) (n - k) (c - k) (xs.drop k) :=
  ⟨by simp [h.len], by have := h.cap; omega, by have := h.big; omega, by have := h.few; omega, by rw [List.map_drop]; exact h.rd.drop (by simp [h.len]) hk h.cap⟩
theorem Bsl.of_own {base : Nat} {e : TypeId} (h : w.ownsRow base e 1 (.slice A n c) n (xs.map eB)) (hf : n ≤ maxB) : Bsl w w.heap.size A n c xs := by
  have hl := h.1
  simp at hl
  rcases h.2 with ⟨h1, rfl⟩ | ⟨g, cap, cur, h1, _, _, h2, h3, _⟩
  · injection h1 with h1 h2 h3; subst h3
    exact ⟨hl, by omega, by unfold maxLen; omega, hf, .of_own h⟩
  · injection h1 with h1 h2' h3'; subst h3'
    exact ⟨hl, h2, h3, hf, .of_own h⟩
end

/-- Block g is just the cells cs, of element type t, none frozen. -/
def Blk (w : World) (g : Nat) (t : TypeId) (cs : Array Value) : Prop := w.heap[g]? = some (.cells cs t (0, 0))
section
variable {w w' : World} {g : Nat} {t : TypeId} {cs : Array Value}
theorem Blk.lt (h : Blk w g t cs) : g < w.heap.size := by
  rcases Nat.lt_or_ge g w.heap.size with hlt | hge
  · exact hlt
  · unfold Blk at h; rw [Array.getElem?_eq_none hge] at h; cases h
theorem Blk.cell (h : Blk w g t cs) (i : Nat) : w.cell? ⟨g, i, none⟩ = cs[i]? := by unfold Blk at h; simp [World.cell?, h]
theorem Blk.frozen (h : Blk w g t cs) (i : Nat) : w.frozen? ⟨g, i, none⟩ = false := by unfold Blk at h; simp [World.frozen?, h]
theorem Blk.new (w : World) (t : TypeId) (cs : Array Value) : Blk (w.alloc (.cells cs t)) w.heap.size t cs := heap_alloc_new w _
theorem Blk.alloc (h : Blk w g t cs) (o : Obj) : Blk (w.alloc o) g t cs := (Below.heap_alloc w o g h.lt).trans h
theorem Blk.set (h : Blk w g t cs) (i : Nat) (u : Value) : Blk (w.setCell ⟨g, i, none⟩ u) g t (cs.setIfInBounds i u) := by
  unfold Blk at h ⊢
  simp [World.setCell, Array.getElem?_modify, h]
theorem Blk.far (h : Blk w g t cs) {p : Addr} (hp : g ≠ p.block) (u : Value) : Blk (w.setCell p u) g t cs := (Below.heap_setCell w p u g hp).trans h
theorem Blk.below {B : Nat} (h : Blk w g t cs) (hb : Below B w w') (hg : g < B) : Blk w' g t cs := (hb.block g hg).trans h
theorem Blk.ext (h : Blk w g t cs) (hb : Below w.heap.size w w') : Blk w' g t cs := h.below hb h.lt
theorem Blk.grown {row : Option Nat} (h : Blk w g t cs) (hb : w.grownBy w' row) (hg : some g ≠ row) : Blk w' g t cs := (hb.block g h.lt hg).trans h
theorem Blk.ne {g' : Nat} {t' : TypeId} {cs' : Array Value} (h : Blk w g t cs) (h' : Blk w g' t' cs') (hne : t ≠ t') : g ≠ g' := by
  rintro rfl
  unfold Blk at h h'
  rw [h] at h'
  injection h' with h'
  injection h' with _ ht
  exact hne ht
end

/-- One value behind the walk's back. -/
theorem hide {p : Prop} (h : p) : Hid p := h

/-- Behind an append onto a row of the call's own (the new elements' block laid first): below G nothing has turned. -/
theorem below_app {G : Nat} {w wr w1 : World} {e : TypeId} {size : Nat} {v : Value} {k : Nat} {xs : List Value} {o : Obj} {row : Option Nat} (hbw : Below G w wr) (how : wr.ownsRow G e size v k xs) (hG : G ≤ wr.heap.size)
    (hg : (wr.alloc o).grownBy w1 row) (hr : row = v.ownBlock) : Below G w w1 := by
  subst hr
  exact (hbw.alloc hG o).grown hg (by simp; omega) (fun j hj => (how.lt j hj).1)
theorem below_app' {G : Nat} {w wr w1 : World} {e : TypeId} {size : Nat} {v : Value} {k : Nat} {xs : List Value} {row : Option Nat} (hbw : Below G w wr) (how : wr.ownsRow G e size v k xs) (hG : G ≤ wr.heap.size)
    (hg : wr.grownBy w1 row) (hr : row = v.ownBlock) : Below G w w1 := by
  subst hr
  exact hbw.grown hg hG (fun j hj => (how.lt j hj).1)
theorem below_drewN {B : Nat} {a w : World} (h : Below B a w) (n : Nat) : Below B a (w.drewN n) := ⟨h.os, h.tape, h.output, h.size, h.block⟩
theorem Bsl.empty (w : World) (B : Nat) (A : Option Addr) (c : Nat) (hc : c ≤ maxLen) : Bsl w B A 0 c [] := ⟨rfl, Nat.zero_le _, hc, by unfold maxB; omega, .inl rfl⟩
theorem Bsl.drewN {w : World} {B : Nat} {A : Option Addr} {n c : Nat} {xs : List UInt8} (h : Bsl w B A n c xs) (k : Nat) : Bsl (w.drewN k) B A n c xs := { h with rd := h.rd }
theorem ret_int {k : IntKind} {a b : Int} (h : a = b) : Ending.returned (.int k a) = .returned (.int k b) := by rw [h]

end Go.Proofs.YtnademkndfecoaaDoor
