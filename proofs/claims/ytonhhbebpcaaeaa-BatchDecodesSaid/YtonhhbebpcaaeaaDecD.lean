/- What a batch's bytes hold; the walk of Decode's deferred closure. -/
import Derived.Test.YtonhhbebpcaaeaaDecC
import Derived.Tactics
import Derived.Tactics2
import Derived.Defers
import Derived.Recover
import Derived.Laws.Pointers
namespace Go.Proofs.Ytonhhbebpcaaeaa
open Go.RowKit

def rdAll : Nat → List UInt8 → Except Nat (List Rec × List UInt8)
  | 0, xs => .ok ([], xs)
  | n + 1, xs => match rdRec xs with
    | .error e => .error e
    | .ok (r, ys) => match rdAll n ys with
      | .error e => .error e
      | .ok (rs, zs) => .ok (r :: rs, zs)
def decode (xs : List UInt8) : Except Nat (Nat × List Rec) :=
  if 4194304 < xs.length then .error 2
  else if xs.length < 8 then .error 4
  else if 72057594037927935 < leNat (xs.take 8) then .error 3
  else if xs.length < 12 then .error 4
  else if 4096 < leNat ((xs.drop 8).take 4) ∨ fitsOf (leNat (xs.take 8)) (leNat ((xs.drop 8).take 4)) = false then .error 3
  else match rdAll (leNat ((xs.drop 8).take 4)) (xs.drop 12) with
    | .error e => .error e
    | .ok (rs, ys) => if 0 < ys.length then .error 5 else .ok (leNat (xs.take 8), rs)

theorem assert_errno (v : Value) (w : World) : (Instr.typeAssert (.iface 28 v) 20 28 true).run Try.prog w = .ok (.tuple #[v, .bool true]) w := by
  simp [Instr.typeAssert, run_underlying Try.underlying28, go_sem, Result.andThen]
theorem catch_idle (p q r : Addr) (w : World) :
    CallsD Try.prog 58 #[.pointer (some p), .pointer (some q), .pointer (some r)] .returning w fun e u' w' => e = .returned (.tuple #[]) ∧ u' = .returning ∧ w' = w := by
  refine callsD_of_wpS Try.func58 rfl fun c₀ cs hu => ?_
  apply wpS_seq
  apply wpS_region
  simp [wpOpsS, go_sem, recoverD, hu, Try.ntmps58, Exit.thenS]
  refine wpS_of_wp ?_
  simp only [Array.replicate]
  go_wp2
  cases c₀
  simp_all [bodyPostS, results, Try.results58]
set_option maxRecDepth 100000 in
theorem catch_pan (p q r : Addr) (er : Nat) (u0 : Value) (v0 : Value) (e0 : Value) (older : List PanicEntry) (w : World) (hp : w.cell? p = some u0) (hq : w.cell? q = some v0) (hr : w.cell? r = some e0) (zp : w.frozen? p = false) (zq : w.frozen? q = false) (zr : w.frozen? r = false) (hpq : p.block ≠ q.block) (hpr : p.block ≠ r.block) (hqr : q.block ≠ r.block) :
    CallsD Try.prog 58 #[.pointer (some p), .pointer (some q), .pointer (some r)] (.panicking ({ v := .iface 28 (.int .i64 (er : Nat)), recovered := false } :: older)) w fun e u' w' =>
      e = .returned (.tuple #[]) ∧ u' = .panicking ({ v := .iface 28 (.int .i64 (er : Nat)), recovered := true } :: older) ∧ w' = ((w.setCell p (.int .u64 0)).setCell q (.slice none 0 0)).setCell r (.int .i64 (er : Nat)) := by
  refine callsD_of_wpS Try.func58 rfl fun c₀ cs hu => ?_
  apply wpS_seq
  apply wpS_region
  simp [wpOpsS, go_sem, recoverD, hu, Try.ntmps58, Exit.thenS]
  refine wpS_of_wp ?_
  simp only [Array.replicate]
  have hta := fun v w => assert_errno v w
  have hq2 : (w.setCell p (.int .u64 0)).cell? q = some v0 := by rw [World.cell?_setCell_far _ _ _ _ (by first | exact hpq | exact Ne.symm hpq)]; exact hq
  have hr2 : ((w.setCell p (.int .u64 0)).setCell q (.slice none 0 0)).cell? r = some e0 := by rw [World.cell?_setCell_far _ _ _ _ (by first | exact hqr | exact Ne.symm hqr), World.cell?_setCell_far _ _ _ _ (by first | exact hpr | exact Ne.symm hpr)]; exact hr
  go_wp2
  cases c₀
  simp_all [bodyPostS, results, Try.results58]
end Go.Proofs.Ytonhhbebpcaaeaa
