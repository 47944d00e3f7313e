/- slices.Backward over bytes, and codec.read that ranges over it; ReadFixed32, ReadFixed64; sedimentref01.ReadFixed. -/
import Derived.RangeFuncNested
import Derived.RangeFuncBound
import Derived.RangeFuncCalls
import Derived.RangeFuncLeaves
import Derived.RangeFuncFrom
import Derived.Shelf.Abstract
import Derived.Shelf.RegionOpen
import Derived.WalkKit
import Derived.OwnWalkIn
import Derived.TacticsInMore
import Derived.LoopNIn
import Derived.LoopIn
import Derived.Test.YtonhhbebpcaaeaaProg
import Derived.Test.YtonhhbebpcaaeaaMem
import Derived.WalkSpells
import Derived.WalkLawsBesides
import Derived.KernelRfl
namespace Go.Proofs.Ytonhhbebpcaaeaa
open Go.RowKit Go.Shelf
attribute [local go_sem] Oper.semAt_some

/-- The pairs (i, xs[i]) for i from k - 1 down to j. -/
def backTo (xs : List UInt8) : Nat → List (Nat × UInt8)
  | 0 => []
  | k + 1 => (k, xs.getD k 0) :: backTo xs k
/-- What has come when the index stands before k: from n - 1 down to k. -/
def backFrom (xs : List UInt8) (n k : Nat) : List (Nat × UInt8) := (backTo xs n).take (n - k)
theorem backTo_len (xs : List UInt8) (n : Nat) : (backTo xs n).length = n := by
  induction n with
  | zero => rfl
  | succ n ih => simp [backTo, ih]
theorem backTo_get (xs : List UInt8) : ∀ (n j : Nat), j < n → (backTo xs n)[j]? = some (n - 1 - j, xs.getD (n - 1 - j) 0)
  | 0, j, h => absurd h (by omega)
  | n + 1, 0, _ => by simp [backTo]
  | n + 1, j + 1, h => by
    simp only [backTo, List.getElem?_cons_succ]
    rw [backTo_get xs n j (by omega), show n + 1 - 1 - (j + 1) = n - 1 - j by omega]
theorem backFrom_step (xs : List UInt8) (n k : Nat) (h : k < n) : backFrom xs n k = backFrom xs n (k + 1) ++ [(k, xs.getD k 0)] := by
  unfold backFrom
  rw [show n - k = (n - (k + 1)) + 1 by omega, List.take_add_one, backTo_get xs n _ (by omega)]
  simp only [Option.toList]
  rw [show n - 1 - (n - (k + 1)) = k by omega]
theorem backFrom_len (xs : List UInt8) (n k : Nat) (h : k ≤ n) : (backFrom xs n k).length = n - k := by
  unfold backFrom
  rw [List.length_take, backTo_len]
  omega

/-- What a round keeps: what lay below n₀, and the box of the slice. -/
def KpB (n₀ Bs : Nat) (W W' : World) : Prop := Below n₀ W W' ∧ W'.heap[Bs]? = W.heap[Bs]?
theorem KpB.t {n₀ Bs : Nat} {A B C : World} (h : KpB n₀ Bs A B) (k : KpB n₀ Bs B C) : KpB n₀ Bs A C := ⟨h.1.trans k.1, k.2.trans h.2⟩
theorem KpB.b {n₀ Bs : Nat} {w : World} (hn : n₀ ≤ w.heap.size) (hs : Bs < w.heap.size) (W : World) (l : Nat) (o o' : Obj) (hl : w.heap.size ≤ l) (h : W.heap[l]? = some o) (h1 : o.isCells = false) (h2 : o.isWalk = false) : KpB n₀ Bs W (W.putObj l o') :=
  ⟨belowK_b hn W l o o' hl h h1 h2, (grownBy_putObj' W l o').block Bs (by have := (Array.getElem?_eq_some_iff.1 h).1; omega) (fun e => by injection e; omega)⟩
theorem cell_new_l (W : World) (v : Value) (t : TypeId) : (W.alloc (.cells #[v] t)).cell? ⟨W.heap.size, 0, none⟩ = some v ∧ (W.alloc (.cells #[v] t)).frozen? ⟨W.heap.size, 0, none⟩ = false :=
  ⟨(Blk.new W t #[v]).cell 0, (Blk.new W t #[v]).frozen 0⟩
theorem cell_alloc_l {W : World} {a : Addr} {v : Value} (o : Obj) (h : W.cell? a = some v) : (W.alloc o).cell? a = some v := cell_kept h (World.grownBy_alloc W o none) (fun r e => by cases e)
theorem frozen_alloc_l {W : World} {a : Addr} {v : Value} (o : Obj) (h : W.cell? a = some v) (hf : W.frozen? a = false) : (W.alloc o).frozen? a = false := (frozen_kept h (World.grownBy_alloc W o none) (fun r e => by cases e)).trans hf

abbrev encP (x : Nat × UInt8) : Array Value := #[.int .i64 (x.1 : Nat), .int .u8 (x.2.toNat : Int)]

set_option maxRecDepth 100000 in
set_option maxHeartbeats 2000000 in
theorem back1_in (F : Fence) (n : Nat) (hF : F.fn 144) (hro : F.round = none) (hn : 1 ≤ n) (l Bs n₀ : Nat) (A : Option Addr) (len cap : Nat) (xs : List UInt8) (J Jx : List (Nat × UInt8) → World → Prop)
    (hY : ∀ pre x W, J pre W → pre.length < len → YieldAt F (n - 1) Try.prog l (encP x) W fun e W' =>
      (e = .returned (.bool true) ∧ J (pre ++ [x]) W' ∧ KpB n₀ Bs W W') ∨ (e = .returned (.bool false) ∧ Jx (pre ++ [x]) W'))
    (W : World) (hBs : W.cell? ⟨Bs, 0, none⟩ = some (.slice A len cap)) (hb : Bsl W n₀ A len cap xs) (h0 : J [] W) :
    CallsIn F n Try.prog 144 #[.func (.yield l) #[] #[], .pointer (some ⟨Bs, 0, none⟩)] W fun e W' => (∃ v, e = .returned v) ∧
      ((∃ ys, ys = backTo xs len ∧ J ys W') ∨ (∃ pre, (∃ k, k ≤ len ∧ pre = backFrom xs len k) ∧ Jx pre W')) := by
  have hcap := hb.cap
  have hbig := hb.big
  unfold maxLen at hbig
  refine callsIn_of_wp Try.func144 rfl hF ?_ hro
  simp only [Try.ntmps144, List.size_toArray, List.length_cons, List.length_nil, Nat.reduceAdd, Nat.reduceSub, Array.replicate_succ, Array.replicate_zero, List.push_toArray, List.append_toArray, List.nil_append, List.cons_append]
  gi_wp2
  gi_loopw [3] (fun i wr => ∃ k : Nat, k ≤ len ∧ i = .int .i64 ((k : Int) - 1) ∧ J (backFrom xs len k) wr ∧ Below n₀ W wr ∧ wr.heap[Bs]? = W.heap[Bs]?)
    (fun i _ => (intOf i + 1).toNat)
  case atStart => exact ⟨len, Nat.le_refl _, by go_num, by simpa [backFrom] using h0, Below.refl _ _, rfl⟩
  case round =>
    obtain ⟨k, hk, rfl, hJs, hnx, hsame0⟩ := hrel
    have hBs' : wr.cell? ⟨Bs, 0, none⟩ = some (.slice A len cap) := (World.cell?_of_block (a := ⟨Bs, 0, none⟩) hsame0).trans hBs
    have hsame := hide hsame0
    clear hsame0
    rcases Nat.eq_zero_or_pos k with rfl | hpos
    · gi_wp2
      go_end0
      exact ⟨⟨_, rfl⟩, .inl ⟨_, by simp [backFrom, List.take_of_length_le, backTo_len], hJs⟩⟩
    · obtain ⟨k, rfl⟩ : ∃ j, k = j + 1 := ⟨k - 1, by omega⟩
      obtain ⟨g, o, rfl, hg, hcell⟩ := hb.at_ (k := k) (by omega)
      have hcell' := (hnx.cell (p := ⟨g, o + k, none⟩) hg).trans hcell
      obtain ⟨fn, tmps, assign, body, hy, hR⟩ := hY _ (k, xs.getD k 0) wr hJs (by rw [backFrom_len xs len _ hk]; omega)
      dsimp only [encP] at hy hR
      have he : ((k + 1 : Nat) : Int) - 1 = k := by omega
      have h2 := hide (backFrom_step xs len k (by omega))
      rw [← h2.out] at hR
      generalize (xs.getD k 0).toNat = x at *
      rw [he]
      gi_wp2
      refine hR.mono ?_
      rintro e W3 (⟨rfl, hJ3, hk3⟩ | ⟨rfl, hJx3⟩)
      · gi_wp2
        go_roundw
        case rel => exact ⟨k, by omega, by first | rfl | go_num, hJ3, hnx.trans hk3.1, hk3.2.trans hsame.out⟩
        case measure => simp [intOf] <;> omega
      · gi_wp2
        refine bodyPost_ret (results_none rfl _ _ _) rfl ?_
        exact ⟨⟨_, rfl⟩, .inr ⟨_, ⟨k, by omega, rfl⟩, hJx3⟩⟩

set_option maxHeartbeats 1000000 in
theorem back_in (F : Fence) (n : Nat) (hF : F.fn 121) (hro : F.round = none) (A : Option Addr) (len cap : Nat) (w : World) :
    CallsIn F n Try.prog 121 #[.slice A len cap] w fun e w' => e = .returned (.func (.func 144) #[] #[.pointer (some ⟨w.heap.size, 0, none⟩)]) ∧ w' = w.alloc (.cells #[.slice A len cap] 22) := by
  refine callsIn_of_wp Try.func121 rfl hF ?_ hro
  simp only [Try.ntmps121, List.size_toArray, List.length_cons, List.length_nil, Nat.reduceAdd, Nat.reduceSub, Array.replicate_succ, Array.replicate_zero, List.push_toArray, List.append_toArray, List.nil_append, List.cons_append]
  gi_wp2
  go_ret
  exact ⟨rfl, rfl⟩

theorem back_stops (F : Fence) (n : Nat) (hF : F.fn 144) (hro : F.round = none) (hn : 1 ≤ n) (Bs n₀ : Nat) (A : Option Addr) (len cap : Nat) (xs : List UInt8) (w : World) (hBs : Bs < w.heap.size) (hn₀ : n₀ ≤ w.heap.size)
    (hc : w.cell? ⟨Bs, 0, none⟩ = some (.slice A len cap)) (hI : Bsl w n₀ A len cap xs) :
    SeqStopsK F n Try.prog 144 #[.pointer (some ⟨Bs, 0, none⟩)] encP (KpB n₀ Bs) (fun ys => ys = backTo xs len) (fun pre => ∃ k, k ≤ len ∧ pre = backFrom xs len k) len w := fun l J Jx W hW _ _ hY h0 => by
  have hW' := hW.mono hn₀
  exact back1_in F n hF hro hn l Bs n₀ A len cap xs J Jx hY W ((hW.cell (p := ⟨Bs, 0, none⟩) hBs).trans hc) (hI.below hW') h0

/-- The number of the bytes, the lowest first. -/
def leNat : List UInt8 → Nat
  | [] => 0
  | x :: xs => x.toNat + 256 * leNat xs
def foldPairs (ys : List (Nat × UInt8)) : Nat := ys.foldl (fun n p => n * 256 + p.2.toNat) 0
theorem foldPairs_snoc (ys : List (Nat × UInt8)) (p : Nat × UInt8) : foldPairs (ys ++ [p]) = foldPairs ys * 256 + p.2.toNat := by simp [foldPairs]

theorem foldPairs_lt' (ys : List (Nat × UInt8)) : ∀ a, ys.foldl (fun n (p : Nat × UInt8) => n * 256 + p.2.toNat) a < (a + 1) * 256 ^ ys.length := by
  induction ys with
  | nil => intro a; simp
  | cons p ys ih =>
    intro a
    have h := ih (a * 256 + p.2.toNat)
    have hp := p.2.toNat_lt
    rw [List.foldl_cons, List.length_cons, Nat.pow_succ]
    refine Nat.lt_of_lt_of_le h ?_
    rw [Nat.mul_comm (256 ^ ys.length) 256, ← Nat.mul_assoc]
    exact Nat.mul_le_mul_right _ (by omega)
theorem foldPairs_lt (ys : List (Nat × UInt8)) : foldPairs ys < 256 ^ ys.length := by
  have := foldPairs_lt' ys 0
  simpa [foldPairs] using this
theorem or_byte (n x : Nat) (hn : n < 72057594037927936) (hx : x < 256) : bits .or .u64 ((n : Int) * 256) (x : Int) = ((n * 256 + x : Nat) : Int) := by
  rw [show (n : Int) * 256 = ((n * 256 : Nat) : Int) by omega, u64_or_nat _ _ (by omega) (by omega), nat_join 8 (n * 256) x (by omega) (by omega)]

set_option maxRecDepth 100000 in
set_option maxHeartbeats 2000000 in
theorem read_in (F : Fence) (n : Nat) (h100 : F.fn 100) (h121 : F.fn 121) (h144 : F.fn 144) (hro : F.round = none) (hn : 3 ≤ n) (A : Option Addr) (len cap size : Nat) (xs : List UInt8) (w : World)
    (h : Bsl w w.heap.size A len cap xs) (hs : size ≤ 8) (hl : size ≤ len) :
    CallsIn F n Try.prog 100 #[.slice A len cap, .int .i64 size] w fun e w' => e = .returned (.tuple #[.int .u64 (foldPairs (backTo (xs.take size) size) : Nat), .int .i64 0]) ∧ Below w.heap.size w w' := by
  have h1 : 1 ≤ n := by omega
  have hcap := h.cap
  have hbig := h.big
  unfold maxLen at hbig
  have ht := h.take hl
  refine callsIn_of_wp_marks Try.func100 rfl h100 ?_ hro
  simp only [Try.ntmps100, List.size_toArray, List.length_cons, List.length_nil, Nat.reduceAdd, Nat.reduceSub, Array.replicate_succ, Array.replicate_zero, List.push_toArray, List.append_toArray, List.nil_append, List.cons_append]
  have hd : decide ((len : Int) < (size : Int)) = false := by simp; omega
  gi_wp2_with (gi_at_call 121; refine (back_in F (n - 1) h121 hro _ _ _ _).mono ?_; rintro e w' ⟨rfl, rfl⟩)
  have hs0 := cell_new_l w (.int .u64 0) 38
  have hb0 := cell_new_l (w.alloc (.cells #[.int .u64 0] 38)) (.slice A size cap) 22
  rw [World.size_alloc] at hb0
  have hB0 : Below w.heap.size w ((w.alloc (.cells #[.int .u64 0] 38)).alloc (.cells #[.slice A size cap] 22)) := ((Below.refl _ w).alloc (Nat.le_refl _) _).alloc (by simp) _
  refine wpIn_rangeFunc_ownF hro h1 (gf := 144) (lb := #[.pointer (some ⟨w.heap.size + 1, 0, none⟩)]) rfl h144 (enters_of Try.func144 (by kernel_rfl) rfl)
    (back_stops F (n - 1) h144 hro (by omega) (w.heap.size + 1) w.heap.size A size cap (xs.take size) _ (by simp) (by simp; omega) hb0.1 (ht.below hB0)) KpB.t (KpB.b (by simp; omega) (by simp)) (Below.refl _ _) (fun _ => rfl)
    (fun pre W => (W.cell? ⟨w.heap.size, 0, none⟩ = some (.int .u64 (foldPairs pre : Nat)) ∧ W.frozen? ⟨w.heap.size, 0, none⟩ = false) ∧ Below w.heap.size w W)
    (fun _ _ _ => False)
    (OwnFrom.and (Own.from (fun s A B row hs hg hr => ⟨cell_kept hs.1 hg hr, (frozen_kept hs.1 hg hr).trans hs.2⟩) _) (ownFrom_below (Nat.le_refl _) (by simp; omega)))
    (fun _ _ _ _ _ hs _ _ => hs)
    ⟨⟨cell_alloc_l _ hs0.1, frozen_alloc_l _ hs0.1 hs0.2⟩, hB0⟩
    (fun x => { tmps := #[.slice A len cap, .int .i64 size, undef, undef, .int .u64 0, .int .i64 0, .pointer (some ⟨w.heap.size, 0, none⟩), undef, .int .u8 (x.2.toNat : Int),
      .slice A len cap, .int .i64 len, .int .i64 size, .bool false, .slice A len cap, .int .i64 size, .slice A size cap, .func (.func 144) #[] #[.pointer (some ⟨w.heap.size + 1, 0, none⟩)], .int .i64 (x.1 : Nat), .int .u8 (x.2.toNat : Int), undef, undef, undef, undef, undef, undef], defers := [] }) ?assign ?body ?done ?stop
  case assign =>
    intro l x W K hK
    gi_wp2
    exact hK
  case body =>
    rintro l pre x W ⟨⟨hc, hf⟩, hB⟩ hlt
    have hb256 : foldPairs pre < 72057594037927936 := Nat.lt_of_lt_of_le (foldPairs_lt pre) (Nat.pow_le_pow_right (n := 256) (i := pre.length) (j := 7) (by omega) (by omega))
    have hsn := hide (foldPairs_snoc pre x)
    have hx := x.2.toNat_lt
    have hor := hide (or_byte (foldPairs pre) x.2.toNat hb256 hx)
    generalize x.2.toNat = b at *
    generalize foldPairs pre = r at *
    have hxi : (b : Int) % 18446744073709551616 = b := by omega
    gi_wp2
    refine ⟨KeepsOthers.setCell _ _ _, ⟨(Below.refl _ W).setCell (p := ⟨w.heap.size, 0, none⟩) (Nat.le_refl _) _, Below.heap_setCell _ _ _ _ (by simp)⟩, ⟨by rw [World.cell?_setCell_same' _ _ _ (by rw [hc]; rfl), hsn.out, hor.out], by rw [World.frozen?_setCell]; exact hf⟩, hB.setCell (p := ⟨w.heap.size, 0, none⟩) (Nat.le_refl _) _⟩
  case done =>
    rintro D ys W hD rfl ⟨⟨hc, hf⟩, hB⟩ hK
    gi_wp2
    refine ⟨by simp, .inl ⟨_, _, rfl, run_takeDeferred hK, ?_⟩⟩
    exact ⟨_, results_tmp2 rfl _ _ _, rfl, hB.trans (belowK_b (w := w) (Nat.le_refl _) W D _ _ (by simp at hD; omega) hK rfl rfl)⟩
  case stop =>
    rintro D c pre W _ _ h _
    exact h.elim

theorem leNat_snoc (xs : List UInt8) (x : UInt8) : leNat (xs ++ [x]) = leNat xs + 256 ^ xs.length * x.toNat := by
  induction xs with
  | nil => simp [leNat]
  | cons y ys ih =>
    simp only [List.cons_append, leNat, ih, List.length_cons, Nat.pow_succ]
    rw [Nat.mul_add, Nat.mul_comm (256 ^ ys.length) 256, Nat.mul_assoc, Nat.add_assoc]
theorem foldl_back (xs : List UInt8) (n : Nat) (h : n ≤ xs.length) : ∀ a, (backTo xs n).foldl (fun n (p : Nat × UInt8) => n * 256 + p.2.toNat) a = a * 256 ^ n + leNat (xs.take n) := by
  induction n with
  | zero => intro a; simp [backTo, leNat]
  | succ n ih =>
    intro a
    have h' : n < xs.length := by omega
    rw [List.take_succ_eq_append_getElem h', leNat_snoc]
    simp only [backTo, List.foldl_cons]
    rw [ih (by omega), Nat.pow_succ, List.length_take, Nat.min_eq_left (by omega)]
    simp only [List.getD, h', List.getElem?_eq_getElem, Option.getD_some]
    rw [Nat.add_mul, Nat.mul_assoc, Nat.mul_comm 256 (256 ^ n), Nat.mul_comm (xs[n].toNat) (256 ^ n)]
    omega
theorem foldPairs_back (xs : List UInt8) (n : Nat) (h : n ≤ xs.length) : foldPairs (backTo xs n) = leNat (xs.take n) := by
  have := foldl_back xs n h 0
  simpa [foldPairs] using this
theorem leNat_lt (xs : List UInt8) : leNat xs < 256 ^ xs.length := by
  induction xs with
  | nil => simp [leNat]
  | cons x xs ih =>
    have := x.toNat_lt
    rw [List.length_cons, Nat.pow_succ]
    simp only [leNat]
    omega

theorem read_w (A : Option Addr) (len cap size : Nat) (xs : List UInt8) (w : World) (h : Bsl w w.heap.size A len cap xs) (hs : size ≤ 8) (hl : size ≤ len) :
    Calls Try.prog 100 #[.slice A len cap, .int .i64 size] w fun e w' => e = .returned (.tuple #[.int .u64 (leNat (xs.take size) : Nat), .int .i64 0]) ∧ Below w.heap.size w w' := by
  have h1 := read_in .wide 3 trivial trivial trivial rfl (by omega) A len cap size xs w h hs hl
  rw [foldPairs_back _ _ (by rw [List.length_take, h.len]; omega), List.take_take, Nat.min_self] at h1
  exact callsIn_wide.1 h1

theorem readFixed32_w (A : Option Addr) (len cap : Nat) (xs : List UInt8) (w : World) (h : Bsl w w.heap.size A len cap xs) (hl : 4 ≤ len) :
    Calls Try.prog 60 #[.slice A len cap] w fun e w' => e = .returned (.tuple #[.int .u32 (leNat (xs.take 4) : Nat), .int .i64 0]) ∧ Below w.heap.size w w' := by
  have hlt := leNat_lt (xs.take 4)
  rw [List.length_take, h.len, Nat.min_eq_left hl] at hlt
  have hc := read_w A len cap 4 xs w h (by omega) hl
  generalize leNat (xs.take 4) = q at *
  have hq : (q : Int) < 4294967296 := by omega
  go_enter Try.func60, Try.ntmps60
  go_wp2_with (go_at_call 100; refine hc.mono ?_; rintro e w1 ⟨rfl, hb⟩)
  go_ret2
  exact ⟨rfl, hb⟩
end Go.Proofs.Ytonhhbebpcaaeaa
