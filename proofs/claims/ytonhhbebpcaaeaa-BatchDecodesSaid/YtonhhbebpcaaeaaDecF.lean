/- The walk of batch.Decode: the bytes that are refused at once. -/
import Derived.Test.YtonhhbebpcaaeaaDecE
namespace Go.Proofs.Ytonhhbebpcaaeaa
open Go.RowKit

def DecPost (w : World) (xs : List UInt8) (e : Ending) (w' : World) : Prop :=
  Below w.heap.size w w' ∧ match decode xs with
  | .error er => e = .returned (.tuple #[.int .u64 0, .slice none 0 0, .int .i64 (er : Nat)])
  | .ok (seq, rs) => ∃ v, e = .returned (.tuple #[.int .u64 (seq : Nat), v, .int .i64 0]) ∧ w'.ownsRow w.heap.size 44 4 v rs.length (rAll rs)

theorem below_set {B g i : Nat} {a w : World} {v : Value} (h : Below B a w) (hg : B ≤ g) : Below B a (w.setCell ⟨g, i, none⟩ v) :=
  ⟨h.os, h.tape, h.output, by simpa [World.setCell] using h.size, fun k hk => (Below.heap_setCell w ⟨g, i, none⟩ v k (by simp; omega)).trans (h.block k hk)⟩

theorem dec_results {T : Array Value} {w : World} {G : Nat} {a b c : Value} (h2 : T.getD 2 undef = .pointer (some ⟨G, 0, none⟩)) (h3 : T.getD 3 undef = .pointer (some ⟨G + 1, 0, none⟩)) (h4 : T.getD 4 undef = .pointer (some ⟨G + 1 + 1, 0, none⟩))
    (p : w.cell? ⟨G, 0, none⟩ = some a) (q : w.cell? ⟨G + 1, 0, none⟩ = some b) (r : w.cell? ⟨G + 1 + 1, 0, none⟩ = some c) :
    (results Try.f21 T).run Try.prog w = .ok (.tuple #[a, b, c]) w := by
  simp only [Array.getD_eq_getD_getElem?] at h2 h3 h4
  simp [results, Try.results21, h2, h3, h4, asAddr, p, q, r, go_sem]
theorem door_idle {T : Array Value} {w : World} {G : Nat} {a b c : Value} {Post : Ending → World → Prop} (h2 : T.getD 2 undef = .pointer (some ⟨G, 0, none⟩)) (h3 : T.getD 3 undef = .pointer (some ⟨G + 1, 0, none⟩)) (h4 : T.getD 4 undef = .pointer (some ⟨G + 1 + 1, 0, none⟩))
    (p : w.cell? ⟨G, 0, none⟩ = some a) (q : w.cell? ⟨G + 1, 0, none⟩ = some b) (r : w.cell? ⟨G + 1 + 1, 0, none⟩ = some c) (h : Post (.returned (.tuple #[a, b, c])) w) :
    bodyPostD Try.prog Try.f21 Post Exit.ret { tmps := T, defers := [{ target := Target.fn (Fn.func 58) #[.pointer (some ⟨G, 0, none⟩), .pointer (some ⟨G + 1, 0, none⟩), .pointer (some ⟨G + 1 + 1, 0, none⟩)], args := #[] }] } w := by
  refine leaves_cons (f := 58) (args := #[.pointer (some ⟨G, 0, none⟩), .pointer (some ⟨G + 1, 0, none⟩), .pointer (some ⟨G + 1 + 1, 0, none⟩)]) (by simp) (by simp [go_sem]) ?_
  refine (catch_idle _ _ _ _).mono ?_
  rintro e u' w'' ⟨rfl, rfl, rfl⟩
  exact ⟨_, dec_results h2 h3 h4 p q r, h⟩
theorem door_pan {T : Array Value} {w : World} {G : Nat} {er : Nat} {t1 t2 t3 : TypeId} {a b c : Value} {Post : Ending → World → Prop} (h2 : T.getD 2 undef = .pointer (some ⟨G, 0, none⟩)) (h3 : T.getD 3 undef = .pointer (some ⟨G + 1, 0, none⟩)) (h4 : T.getD 4 undef = .pointer (some ⟨G + 1 + 1, 0, none⟩))
    (p : Blk w G t1 #[a]) (q : Blk w (G + 1) t2 #[b]) (r : Blk w (G + 1 + 1) t3 #[c]) (h : ∀ w', Below G w w' → Post (.returned (.tuple #[.int .u64 0, .slice none 0 0, .int .i64 (er : Nat)])) w') :
    bodyPostD Try.prog Try.f21 Post (Exit.panic [{ v := .iface 28 (.int .i64 (er : Nat)), recovered := false }]) { tmps := T, defers := [{ target := Target.fn (Fn.func 58) #[.pointer (some ⟨G, 0, none⟩), .pointer (some ⟨G + 1, 0, none⟩), .pointer (some ⟨G + 1 + 1, 0, none⟩)], args := #[] }] } w := by
  have p0 := p.cell 0
  have q0 := q.cell 0
  have r0 := r.cell 0
  simp only [List.getElem?_toArray, List.getElem?_cons_zero] at p0 q0 r0
  refine leaves_cons (f := 58) (args := #[.pointer (some ⟨G, 0, none⟩), .pointer (some ⟨G + 1, 0, none⟩), .pointer (some ⟨G + 1 + 1, 0, none⟩)]) (by simp) (by simp [go_sem]) ?_
  refine (catch_pan _ _ _ er a b c [] _ p0 q0 r0 (p.frozen 0) (q.frozen 0) (r.frozen 0) (by simp) (by simp; omega) (by simp)).mono ?_
  rintro e u' w'' ⟨rfl, rfl, rfl⟩
  have P1 : Blk (((w.setCell ⟨G, 0, none⟩ (.int .u64 0)).setCell ⟨G + 1, 0, none⟩ (.slice none 0 0)).setCell ⟨G + 1 + 1, 0, none⟩ (.int .i64 (er : Nat))) G t1 #[.int .u64 0] := by
    have := ((p.set 0 (.int .u64 0)).far (p := ⟨G + 1, 0, none⟩) (by simp) (.slice none 0 0)).far (p := ⟨G + 1 + 1, 0, none⟩) (by simp; omega) (.int .i64 (er : Nat))
    simpa using this
  have Q1 : Blk (((w.setCell ⟨G, 0, none⟩ (.int .u64 0)).setCell ⟨G + 1, 0, none⟩ (.slice none 0 0)).setCell ⟨G + 1 + 1, 0, none⟩ (.int .i64 (er : Nat))) (G + 1) t2 #[.slice none 0 0] := by
    have := ((q.far (p := ⟨G, 0, none⟩) (by simp) (.int .u64 0)).set 0 (.slice none 0 0)).far (p := ⟨G + 1 + 1, 0, none⟩) (by simp) (.int .i64 (er : Nat))
    simpa using this
  have R1 : Blk (((w.setCell ⟨G, 0, none⟩ (.int .u64 0)).setCell ⟨G + 1, 0, none⟩ (.slice none 0 0)).setCell ⟨G + 1 + 1, 0, none⟩ (.int .i64 (er : Nat))) (G + 1 + 1) t3 #[.int .i64 (er : Nat)] := by
    have := ((r.far (p := ⟨G, 0, none⟩) (by simp; omega) (.int .u64 0)).far (p := ⟨G + 1, 0, none⟩) (by simp) (.slice none 0 0)).set 0 (.int .i64 (er : Nat))
    simpa using this
  have p1 := P1.cell 0
  have q1 := Q1.cell 0
  have r1 := R1.cell 0
  simp only [List.getElem?_toArray, List.getElem?_cons_zero] at p1 q1 r1
  have hres := dec_results h2 h3 h4 p1 q1 r1
  have hfin := h _ (below_set (below_set (below_set (Below.refl G w) (g := G) (Nat.le_refl _) (i := 0) (v := .int .u64 0)) (g := G + 1) (by omega) (i := 0) (v := .slice none 0 0)) (g := G + 1 + 1) (by omega) (i := 0) (v := .int .i64 (er : Nat)))

  exact ⟨_, hres, hfin⟩

end Go.Proofs.Ytonhhbebpcaaeaa
