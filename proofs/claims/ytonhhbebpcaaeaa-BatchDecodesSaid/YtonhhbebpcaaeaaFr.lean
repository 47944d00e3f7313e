/- What may have changed: a frame that names the blocks. -/
import Derived.Test.YtonhhbebpcaaeaaApp
namespace Go.Proofs.Ytonhhbebpcaaeaa
open Go.RowKit

/-- w' is w with new blocks, and of the old ones only those of S may have changed. -/
structure Fr (S : Nat → Prop) (w w' : World) : Prop where
  os : w'.os = w.os
  tape : w'.tape = w.tape
  output : w'.output = w.output
  size : w.heap.size ≤ w'.heap.size
  block : ∀ k, k < w.heap.size → ¬ S k → w'.heap[k]? = w.heap[k]?

section
variable {S S' : Nat → Prop} {w w1 w2 w' : World}
theorem Fr.refl (S : Nat → Prop) (w : World) : Fr S w w := ⟨rfl, rfl, rfl, Nat.le_refl _, fun _ _ _ => rfl⟩
theorem Fr.mono (h : Fr S w w') (hs : ∀ k, k < w.heap.size → S k → S' k) : Fr S' w w' := ⟨h.os, h.tape, h.output, h.size, fun k hk hn => h.block k hk fun hS => hn (hs k hk hS)⟩
theorem Fr.trans (h : Fr S w w1) (h' : Fr S' w1 w2) (hs : ∀ k, k < w.heap.size → S' k → S k) : Fr S w w2 :=
  ⟨h'.os.trans h.os, h'.tape.trans h.tape, h'.output.trans h.output, Nat.le_trans h.size h'.size, fun k hk hn => (h'.block k (Nat.lt_of_lt_of_le hk h.size) fun hS => hn (hs k hk hS)).trans (h.block k hk hn)⟩
theorem Fr.of_below {B : Nat} (h : Below B w w') (hS : ∀ k, B ≤ k → k < w.heap.size → S k) : Fr S w w' :=
  ⟨h.os, h.tape, h.output, h.size, fun k hk hn => h.block k (by rcases Nat.lt_or_ge k B with h1 | h1; exact h1; exact absurd (hS k h1 hk) hn)⟩
theorem Fr.ext (h : Below w.heap.size w w') : Fr S w w' := .of_below h fun _ h1 h2 => absurd h1 (by omega)
theorem Fr.of_grown {row : Option Nat} (h : w.grownBy w' row) (hS : ∀ k, some k = row → S k) : Fr S w w' :=
  ⟨h.os, h.tape, h.output, h.size, fun k hk hn => h.block k hk fun e => hn (hS k e)⟩
theorem Fr.alloc (w : World) (o : Obj) : Fr S w (w.alloc o) := .ext ((Below.refl _ _).alloc (Nat.le_refl _) o)
theorem Fr.drew (w : World) : Fr S w w.drew := ⟨rfl, rfl, rfl, Nat.le_refl _, fun _ _ _ => rfl⟩
theorem Fr.store (w : World) (p : Addr) (u : Value) (hS : S p.block) : Fr S w (w.setCell p u) :=
  ⟨rfl, rfl, rfl, by simp, fun k _ hn => Below.heap_setCell w p u k fun e => hn (e ▸ hS)⟩
theorem Fr.below (h : Fr S w w') {B : Nat} (hB : B ≤ w.heap.size) (hS : ∀ k, k < w.heap.size → S k → B ≤ k) : Below B w w' :=
  ⟨h.os, h.tape, h.output, h.size, fun k hk => h.block k (by omega) fun hs => by have := hS k (by omega) hs; omega⟩
theorem Fr.belowT {w0 : World} {B : Nat} (h0 : Below B w0 w) (h : Fr S w w') (hB : B ≤ w0.heap.size) (hS : ∀ k, k < w.heap.size → S k → B ≤ k) : Below B w0 w' :=
  h0.trans (h.below (Nat.le_trans hB h0.size) hS)
theorem Fr.blk (h : Fr S w w') {g : Nat} {t : TypeId} {cs : Array Value} (hb : Blk w g t cs) (hn : ¬ S g) : Blk w' g t cs := (h.block g hb.lt hn).trans hb
theorem Fr.cell (h : Fr S w w') {p : Addr} (hp : p.block < w.heap.size) (hn : ¬ S p.block) : w'.cell? p = w.cell? p := World.cell?_of_block (h.block _ hp hn)
theorem Fr.rd (h : Fr S w w') {B : Nat} {A : Option Addr} {vs : List Value} (hr : Rd w B A vs) (hB : B ≤ w.heap.size) (hn : ∀ a, A = some a → ¬ S a.block) : Rd w' B A vs := by
  rcases hr with rfl | ⟨g, o, e, hg, hc⟩
  · exact .inl rfl
  · refine .inr ⟨g, o, e, hg, fun j u hu => ?_⟩
    rw [h.cell (p := ⟨g, o + j, none⟩) (by simp only; omega) (hn ⟨g, o, none⟩ e)]
    exact hc j u hu
theorem Fr.own (h : Fr S w w') {b : Nat} {e : TypeId} {s : Nat} {v : Value} {n : Nat} {xs : List Value} (ho : w.ownsRow b e s v n xs) (hn : ∀ g, v.ownBlock = some g → ¬ S g) : w'.ownsRow b e s v n xs := by
  refine ⟨ho.1, ?_⟩
  rcases ho.2 with h1 | ⟨g, cap, cur, e1, hb, hg, rest⟩
  · exact .inl h1
  · refine .inr ⟨g, cap, cur, e1, hb, ?_, rest⟩
    have hlt : g < w.heap.size := by
      rcases Nat.lt_or_ge g w.heap.size with hlt | hge
      · exact hlt
      · rw [Array.getElem?_eq_none hge] at hg; cases hg
    exact (h.block g hlt (hn g (by rw [e1]; rfl))).trans hg
end
end Go.Proofs.Ytonhhbebpcaaeaa
