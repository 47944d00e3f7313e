/- The walk of the reader's fragment. -/
import Derived.Test.YtonhhbebpcaaeaaProg
import Derived.Test.YtonhhbebpcaaeaaMem
import Derived.Test.YtonhhbebpcaaeaaSum
import Derived.Test.YtonhhbebpcaaeaaWalA
import Derived.Deep.QuietTactic
import Derived.BigQuiet
import Derived.WalkSpells
import Derived.WalkLawsBesides
import Derived.KernelRfl
namespace Go.Proofs.Ytonhhbebpcaaeaa
open Go.RowKit

/-- What a look at the log comes to: it ends so; or a fragment, its type, its bytes. -/
inductive Nx where
  | stop (how : Nat)
  | frag (typ : Nat) (x : List UInt8)

def typOf (rec : Bool) (b : List UInt8) : Int := ((b.getD 6 0).toNat : Int) - (if rec then 4 else 0)
def fragP (log : Nat) (rec begun : Bool) (b : List UInt8) : Nx :=
  if maskOf (crc (b.drop 6)) ≠ leNat (b.take 4) then .stop (badOf rec)
  else if typOf rec b < 1 then .stop (badOf rec)
  else if 4 < typOf rec b then .stop (badOf rec)
  else if rec = true ∧ leNat ((b.drop 7).take 4) ≠ log then .stop 2
  else if decide (typOf rec b = 1 ∨ typOf rec b = 2) = begun then .stop (badOf rec)
  else .frag (typOf rec b).toNat (b.drop (headOf rec))

/-- The reader, as it lies. -/
def RdrIs (w : World) (R : Nat) (bs : Value) (log : Nat) (rec : Bool) (pos : Nat) (begun : Bool) : Prop :=
  Blk w R 87 #[bs, .int .u32 (log : Nat), .bool rec, .int .i64 (headOf rec : Nat), .int .i64 (pos : Nat), .bool begun]

/-- What lies behind a look. -/
def FragPost (w : World) (R : Nat) (bs : Value) (log : Nat) (rec : Bool) (pos' : Nat → Nat) (begun : Bool) (B : Nat) (q : Nx) (e : Ending) (w' : World) : Prop :=
  w.grownBy w' (some R) ∧ match q with
  | .stop how => e = .returned (.tuple #[.int .i64 0, .slice none 0 0, .int .i64 (how : Nat)])
  | .frag t x => ∃ A n c, e = .returned (.tuple #[.int .i64 (t : Nat), .slice A n c, .int .i64 (-1)]) ∧ Bsl w' B A n c x ∧ RdrIs w' R bs log rec (pos' x.length) begun

theorem grown_of_below {w w' : World} {row : Option Nat} (h : Below w.heap.size w w') : w.grownBy w' row := ⟨h.os, h.tape, h.output, h.size, fun k hk _ => h.block k hk⟩
theorem grown_set {w w' : World} {R i : Nat} {v : Value} (h : w.grownBy w' (some R)) : w.grownBy (w'.setCell ⟨R, i, none⟩ v) (some R) :=
  ⟨h.os, h.tape, h.output, by simpa [World.setCell] using h.size, fun k hk hne => (Below.heap_setCell w' ⟨R, i, none⟩ v k (fun e => hne (by rw [e]))).trans (h.block k hk hne)⟩
theorem below_of_grown {B R : Nat} {w w' : World} (h : w.grownBy w' (some R)) (hB : B ≤ R) (hw : B ≤ w.heap.size) : Below B w w' :=
  ⟨h.os, h.tape, h.output, h.size, fun k hk => h.block k (by omega) (fun e => by injection e; omega)⟩

theorem RdrIs.cells {w : World} {R : Nat} {bs : Value} {log : Nat} {rec : Bool} {pos : Nat} {begun : Bool} (h : RdrIs w R bs log rec pos begun) :
    w.cell? ⟨R, 0, none⟩ = some bs ∧ w.cell? ⟨R, 1, none⟩ = some (.int .u32 (log : Nat)) ∧ w.cell? ⟨R, 2, none⟩ = some (.bool rec) ∧ w.cell? ⟨R, 3, none⟩ = some (.int .i64 (headOf rec : Nat)) ∧
      w.cell? ⟨R, 4, none⟩ = some (.int .i64 (pos : Nat)) ∧ w.cell? ⟨R, 5, none⟩ = some (.bool begun) ∧ w.frozen? ⟨R, 4, none⟩ = false ∧ w.frozen? ⟨R, 5, none⟩ = false :=
  ⟨h.cell 0, h.cell 1, h.cell 2, h.cell 3, h.cell 4, h.cell 5, h.frozen 4, h.frozen 5⟩
theorem RdrIs.ext {w w' : World} {R : Nat} {bs : Value} {log : Nat} {rec : Bool} {pos : Nat} {begun : Bool} (h : RdrIs w R bs log rec pos begun) (hb : Below w.heap.size w w') : RdrIs w' R bs log rec pos begun := Blk.ext h hb
theorem RdrIs.goes {w : World} {R : Nat} {bs : Value} {log : Nat} {rec : Bool} {pos : Nat} {begun : Bool} (h : RdrIs w R bs log rec pos begun) (p : Nat) : RdrIs (w.setCell ⟨R, 4, none⟩ (.int .i64 (p : Nat))) R bs log rec p begun := Blk.set h 4 _

theorem Bsl.grown {w w' : World} {B : Nat} {A : Option Addr} {n c : Nat} {xs : List UInt8} {row : Option Nat} (h : Bsl w B A n c xs) (hg : w.grownBy w' row) (hB : B ≤ w.heap.size) (hne : ∀ g o, A = some ⟨g, o, none⟩ → some g ≠ row) : Bsl w' B A n c xs := by
  refine { h with rd := ?_ }
  rcases h.rd with he | ⟨g, o, e, hg2, hc⟩
  · exact .inl he
  · exact .inr ⟨g, o, e, hg2, fun j u hu => (World.cell?_of_block (a := ⟨g, o + j, none⟩) (hg.block g (by omega) (hne g o e))).trans (hc j u hu)⟩
theorem Bsl.cut {w : World} {B g o n c : Nat} {xs : List UInt8} (h : Bsl w B (some ⟨g, o, none⟩) n c xs) {k : Nat} (hk : k ≤ n) : Bsl w B (some ⟨g, o + k, none⟩) (n - k) (c - k) (xs.drop k) := by
  refine ⟨by simp [h.len], by have := h.cap; omega, by have := h.big; omega, by have := h.few; omega, ?_⟩
  rcases h.rd with he | ⟨g', o', e, hg2, hc⟩
  · exact .inl (by rw [List.map_drop, he]; simp)
  · simp only [Option.some.injEq, Addr.mk.injEq, and_true] at e
    obtain ⟨rfl, rfl⟩ := e
    rw [List.map_drop]
    exact Rd.drop_cell hc hg2 k
theorem Bsl.cut0 {w : World} {B g o n c : Nat} {xs : List UInt8} (h : Bsl w B (some ⟨g, o, none⟩) n c xs) {k : Nat} (hk : c = k) (hn : k ≤ n) : Bsl w B (some ⟨g, o, none⟩) (n - k) 0 (xs.drop k) := by
  have h1 := h.cap
  have h2 := h.len
  exact ⟨by simp [h.len], by omega, by unfold maxLen; omega, by unfold maxB; omega, .inl (by rw [List.map_eq_nil_iff, List.drop_eq_nil_iff]; omega)⟩
theorem drewN_grown {a w : World} {row : Option Nat} (h : a.grownBy w row) (n : Nat) : a.grownBy (w.drewN n) row := ⟨h.os, h.tape, h.output, h.size, h.block⟩

theorem fragEnd {w w3 : World} {R B : Nat} {bs : Value} {log pos p m n' c' t : Nat} {rec begun : Bool} {q : Nx} {x : List UInt8} {pos' : Nat → Nat} {A' : Option Addr} {P T : Value} (hb : Below w.heap.size w w3) (hr2 : RdrIs w3 R bs log rec pos begun) (hs : Bsl w B A' n' c' x) (hB : B ≤ R) (hRlt : R < w.heap.size)
    (hp : P = .int .i64 (p : Nat)) (hp2 : pos' x.length = p) (hT : T = .int .i64 (t : Nat)) (hq : q = Nx.frag t x) :
    FragPost w R bs log rec pos' begun B q (.returned (.tuple #[T, .slice A' n' c', .int .i64 (-1)])) ((w3.setCell ⟨R, 4, none⟩ P).drewN m) := by
  subst hp hT
  have h1 : w.grownBy ((w3.setCell ⟨R, 4, none⟩ (.int .i64 (p : Nat))).drewN m) (some R) := drewN_grown (grown_set (grown_of_below hb)) m
  refine ⟨h1, ?_⟩
  rw [hq]
  refine ⟨A', n', c', rfl, hs.below (below_of_grown h1 hB (by omega)), ?_⟩
  rw [hp2]
  exact hr2.goes p

set_option maxHeartbeats 2000000 in
theorem fragF_w (R B : Nat) (bs : Value) (log pos n c : Nat) (begun : Bool) (A : Option Addr) (xs : List UInt8) (w : World) (hB : B ≤ R) (hr : RdrIs w R bs log false pos begun)
    (h : Bsl w B A n c xs) (hn : 7 ≤ n) (hpos : pos + n ≤ 4611686018427387904) :
    Calls Try.prog 91 #[.pointer (some ⟨R, 0, none⟩), .slice A n c] w (FragPost w R bs log false (fun k => pos + (7 + k)) begun B (fragP log false begun xs)) := by
  have hlen := h.len
  have hcap := h.cap
  have hbig := h.big
  have hRlt := hr.lt
  unfold maxLen at hbig
  obtain ⟨g, o, rfl, hg, hcell⟩ := h.at_ (k := 6) (by omega)
  have hx := (xs.getD 6 0).toNat_lt
  have hd6 := h.drop (k := 6) (by omega)
  rw [if_neg (by omega)] at hd6
  have hm : maskOf (crc (xs.drop 6)) < 4294967296 := maskOf_lt _
  have hcr := crc_lt (xs.drop 6)
  have hq : Hid (fragP log false begun xs = if maskOf (crc (xs.drop 6)) ≠ leNat (xs.take 4) then .stop 3 else if ((xs.getD 6 0).toNat : Int) < 1 then .stop 3 else if 4 < ((xs.getD 6 0).toNat : Int) then .stop 3
      else if decide (((xs.getD 6 0).toNat : Int) = 1 ∨ ((xs.getD 6 0).toNat : Int) = 2) = begun then .stop 3 else .frag (xs.getD 6 0).toNat (xs.drop 7)) := by
    unfold Hid fragP typOf
    simp [badOf, headOf]
  generalize fragP log false begun xs = q at *
  generalize (xs.getD 6 0).toNat = k at *
  have hR1 := readFixed32_w (some ⟨g, o, none⟩) n c xs w (h.more (by omega)) (by omega)
  generalize leNat (xs.take 4) = L at *
  go_enter Try.func91, Try.ntmps91
  go_wp2_with fail
  go_at_call 60
  refine hR1.mono ?_
  rintro e w1 ⟨rfl, hb1⟩
  clear hR1
  have hcell1 := (hb1.cell (p := ⟨g, o + 6, none⟩) (by show g < _; omega)).trans hcell
  have hr1 := hr.ext hb1
  obtain ⟨-, -, h2, -, -, -, -, -⟩ := hr1.cells
  have hd61 := hd6.below (hb1.mono (by omega))
  go_wp2_with fail
  go_at_call 120
  refine (sum_w _ _ _ (xs.drop 6) _ (hd61.more (by have := hb1.size; omega))).mono ?_
  rintro e w2 ⟨rfl, hb2⟩
  have hr2 := hr1.ext hb2
  have hb12 : Below w.heap.size w w2 := hb1.trans (hb2.mono hb1.size)
  obtain ⟨c0, c1, c2, c3, c4, c5, f4, f5⟩ := hr2.cells
  clear h2 hcell1 hcell hd61
  simp only [headOf, Bool.false_eq_true, if_false] at c3
  generalize crc (xs.drop 6) = C at *
  go_wp2_with fail
  go_at_call 119
  refine (mask_w C hcr _).mono ?_
  rintro e w3 ⟨rfl, rfl⟩
  generalize maskOf C = M at *
  have hsk := hide (h.drop (k := 7) (by omega))
  have harm := bad_w R false w3 c2
  by_cases k1 : M = L
  · have t1 : ((M : Int) != (L : Int)) = false := by rw [k1]; simp
    by_cases k2 : k < 1
    · have t2 : decide ((k : Int) < 1) = true := by simp; omega
      go_wp2_with (go_at_call 90; refine harm.mono ?_; rintro e w4 ⟨rfl, rfl⟩)
      go_ret3
      rw [hq.out, if_neg (by omega), if_pos (by omega)]
      exact ⟨grown_of_below hb12, rfl⟩
    · have t2 : decide ((k : Int) < 1) = false := by simp; omega
      by_cases k3 : 4 < k
      · have t3 : decide ((4 : Int) < (k : Int)) = true := by simp; omega
        go_wp2_with (go_at_call 90; refine harm.mono ?_; rintro e w4 ⟨rfl, rfl⟩)
        go_ret3
        rw [hq.out, if_neg (by omega), if_neg (by omega), if_pos (by omega)]
        exact ⟨grown_of_below hb12, rfl⟩
      · have t3 : decide ((4 : Int) < (k : Int)) = false := by simp; omega
        have hk : (k = 1 ∨ k = 2) ∨ (k = 3 ∨ k = 4) := by omega
        have hle := hb12.size
        have hq2 : Hid (q = if decide ((k : Int) = 1 ∨ (k : Int) = 2) = begun then Nx.stop 3 else Nx.frag k (xs.drop 7)) := by
          unfold Hid
          rw [hq.out, if_neg (by omega), if_neg (by omega), if_neg (by omega)]
        clear hq
        rcases hk with hk | hk
        · cases begun
          · have hq3 : Hid (q = Nx.frag k (xs.drop 7)) := by
              unfold Hid
              rw [hq2.out, if_neg (by simp; omega)]
            clear hq2
            have hc7 := h.cut (k := 7) hn
            rcases hk with rfl | rfl
            · by_cases hcc : c = 7
              · have hn7 : n = 7 := by omega
                have hc8 : Bsl w B (some ⟨g, o, none⟩) 0 0 (xs.drop 7) := by have := h.cut0 hcc hn; rwa [hn7] at this
                subst hcc
                subst hn7
                go_wp2
                go_quiet (fail)
                go_wp2
                go_ret3
                exact fragEnd hb12 hr2 hc8 hB hRlt (p := pos + 7) (by simp) (by simp; omega) (t := 1) rfl hq3.out
              · go_wp2
                go_quiet (fail)
                go_wp2
                go_ret3
                exact fragEnd hb12 hr2 hc7 hB hRlt (p := pos + n) (by simp) (by simp; omega) (t := 1) rfl hq3.out
            · by_cases hcc : c = 7
              · have hn7 : n = 7 := by omega
                have hc8 : Bsl w B (some ⟨g, o, none⟩) 0 0 (xs.drop 7) := by have := h.cut0 hcc hn; rwa [hn7] at this
                subst hcc
                subst hn7
                go_wp2
                go_quiet (fail)
                go_wp2
                go_ret3
                exact fragEnd hb12 hr2 hc8 hB hRlt (p := pos + 7) (by simp) (by simp; omega) (t := 2) rfl hq3.out
              · go_wp2
                go_quiet (fail)
                go_wp2
                go_ret3
                exact fragEnd hb12 hr2 hc7 hB hRlt (p := pos + n) (by simp) (by simp; omega) (t := 2) rfl hq3.out
          · have hq3 : Hid (q = Nx.stop 3) := by
              unfold Hid
              rw [hq2.out, if_pos (by simp; omega)]
            clear hq2
            rcases hk with rfl | rfl
            · go_wp2_with (go_at_call 90; refine harm.mono ?_; rintro e w4 ⟨rfl, rfl⟩)
              go_ret3
              rw [hq3.out]
              exact ⟨grown_of_below hb12, rfl⟩
            · go_wp2_with (go_at_call 90; refine harm.mono ?_; rintro e w4 ⟨rfl, rfl⟩)
              go_ret3
              rw [hq3.out]
              exact ⟨grown_of_below hb12, rfl⟩
        · cases begun
          · have hq3 : Hid (q = Nx.stop 3) := by
              unfold Hid
              rw [hq2.out, if_pos (by simp; omega)]
            clear hq2
            rcases hk with rfl | rfl
            · go_wp2_with (go_at_call 90; refine harm.mono ?_; rintro e w4 ⟨rfl, rfl⟩)
              go_ret3
              rw [hq3.out]
              exact ⟨grown_of_below hb12, rfl⟩
            · go_wp2_with (go_at_call 90; refine harm.mono ?_; rintro e w4 ⟨rfl, rfl⟩)
              go_ret3
              rw [hq3.out]
              exact ⟨grown_of_below hb12, rfl⟩
          · have hq3 : Hid (q = Nx.frag k (xs.drop 7)) := by
              unfold Hid
              rw [hq2.out, if_neg (by simp; omega)]
            clear hq2
            have hc7 := h.cut (k := 7) hn
            rcases hk with rfl | rfl
            · by_cases hcc : c = 7
              · have hn7 : n = 7 := by omega
                have hc8 : Bsl w B (some ⟨g, o, none⟩) 0 0 (xs.drop 7) := by have := h.cut0 hcc hn; rwa [hn7] at this
                subst hcc
                subst hn7
                go_wp2
                go_quiet (fail)
                go_wp2
                go_ret3
                exact fragEnd hb12 hr2 hc8 hB hRlt (p := pos + 7) (by simp) (by simp; omega) (t := 3) rfl hq3.out
              · go_wp2
                go_quiet (fail)
                go_wp2
                go_ret3
                exact fragEnd hb12 hr2 hc7 hB hRlt (p := pos + n) (by simp) (by simp; omega) (t := 3) rfl hq3.out
            · by_cases hcc : c = 7
              · have hn7 : n = 7 := by omega
                have hc8 : Bsl w B (some ⟨g, o, none⟩) 0 0 (xs.drop 7) := by have := h.cut0 hcc hn; rwa [hn7] at this
                subst hcc
                subst hn7
                go_wp2
                go_quiet (fail)
                go_wp2
                go_ret3
                exact fragEnd hb12 hr2 hc8 hB hRlt (p := pos + 7) (by simp) (by simp; omega) (t := 4) rfl hq3.out
              · go_wp2
                go_quiet (fail)
                go_wp2
                go_ret3
                exact fragEnd hb12 hr2 hc7 hB hRlt (p := pos + n) (by simp) (by simp; omega) (t := 4) rfl hq3.out
  · have t1 : ((M : Int) != (L : Int)) = true := by rw [bne_iff_ne]; omega
    go_wp2_with (go_at_call 90; refine harm.mono ?_; rintro e w4 ⟨rfl, rfl⟩)
    go_ret3
    rw [hq.out, if_pos k1]
    exact ⟨grown_of_below hb12, rfl⟩
set_option maxHeartbeats 2000000 in
theorem fragT_w (R B : Nat) (bs : Value) (log pos n c : Nat) (begun : Bool) (A : Option Addr) (xs : List UInt8) (w : World) (hB : B ≤ R) (hr : RdrIs w R bs log true pos begun)
    (h : Bsl w B A n c xs) (hn : 11 ≤ n) (hpos : pos + n ≤ 4611686018427387904) :
    Calls Try.prog 91 #[.pointer (some ⟨R, 0, none⟩), .slice A n c] w (FragPost w R bs log true (fun k => pos + (11 + k)) begun B (fragP log true begun xs)) := by
  have hlen := h.len
  have hcap := h.cap
  have hbig := h.big
  have hRlt := hr.lt
  unfold maxLen at hbig
  obtain ⟨g, o, rfl, hg, hcell⟩ := h.at_ (k := 6) (by omega)
  have hx := (xs.getD 6 0).toNat_lt
  have hd6 := h.drop (k := 6) (by omega)
  rw [if_neg (by omega)] at hd6
  have hm : maskOf (crc (xs.drop 6)) < 4294967296 := maskOf_lt _
  have hcr := crc_lt (xs.drop 6)
  have hq : Hid (fragP log true begun xs = if maskOf (crc (xs.drop 6)) ≠ leNat (xs.take 4) then .stop 1 else if ((xs.getD 6 0).toNat : Int) - 4 < 1 then .stop 1 else if 4 < ((xs.getD 6 0).toNat : Int) - 4 then .stop 1
      else if leNat ((xs.drop 7).take 4) ≠ log then .stop 2 else if decide (((xs.getD 6 0).toNat : Int) - 4 = 1 ∨ ((xs.getD 6 0).toNat : Int) - 4 = 2) = begun then .stop 1 else .frag (((xs.getD 6 0).toNat : Int) - 4).toNat (xs.drop 11)) := by
    unfold Hid fragP typOf
    simp [badOf, headOf]
  generalize fragP log true begun xs = q at *
  generalize (xs.getD 6 0).toNat = k at *
  have hR1 := readFixed32_w (some ⟨g, o, none⟩) n c xs w (h.more (by omega)) (by omega)
  generalize leNat (xs.take 4) = L at *
  go_enter Try.func91, Try.ntmps91
  go_wp2_with fail
  go_at_call 60
  refine hR1.mono ?_
  rintro e w1 ⟨rfl, hb1⟩
  clear hR1
  have hcell1 := (hb1.cell (p := ⟨g, o + 6, none⟩) (by show g < _; omega)).trans hcell
  have hr1 := hr.ext hb1
  obtain ⟨-, -, h2, -, -, -, -, -⟩ := hr1.cells
  have hd61 := hd6.below (hb1.mono (by omega))
  go_wp2_with fail
  go_at_call 120
  refine (sum_w _ _ _ (xs.drop 6) _ (hd61.more (by have := hb1.size; omega))).mono ?_
  rintro e w2 ⟨rfl, hb2⟩
  have hr2 := hr1.ext hb2
  have hb12 : Below w.heap.size w w2 := hb1.trans (hb2.mono hb1.size)
  obtain ⟨c0, c1, c2, c3, c4, c5, f4, f5⟩ := hr2.cells
  clear h2 hcell1 hcell hd61
  simp only [headOf, if_true] at c3
  generalize crc (xs.drop 6) = C at *
  go_wp2_with fail
  go_at_call 119
  refine (mask_w C hcr _).mono ?_
  rintro e w3 ⟨rfl, rfl⟩
  generalize maskOf C = M at *
  have hd7 := (h.cut (k := 7) (by omega)).below (hb12.mono (by omega))
  have hR2 := readFixed32_w _ _ _ (xs.drop 7) w3 (hd7.more (by have := hb12.size; omega)) (by omega)
  have hL2 : leNat ((xs.drop 7).take 4) < 4294967296 := by
    have := leNat_lt ((xs.drop 7).take 4)
    rw [List.length_take, hd7.len, Nat.min_eq_left (by omega)] at this
    exact this
  generalize leNat ((xs.drop 7).take 4) = L2 at *
  have harm := bad_w R true w3 c2
  by_cases k1 : M = L
  · have t1 : ((M : Int) != (L : Int)) = false := by rw [k1]; simp
    by_cases k2 : k < 5
    · have t2 : decide ((k : Int) - 4 < 1) = true := by simp; omega
      have t2' : (k : Int) - 4 < 1 := by omega
      go_wp2_with (go_at_call 90; refine harm.mono ?_; rintro e w4 ⟨rfl, rfl⟩)
      go_ret3
      rw [hq.out, if_neg (by omega), if_pos (by omega)]
      exact ⟨grown_of_below hb12, rfl⟩
    · have t2 : decide ((k : Int) - 4 < 1) = false := by simp; omega
      by_cases k3 : 8 < k
      · have t3 : decide ((4 : Int) < (k : Int) - 4) = true := by simp; omega
        have t3' : (4 : Int) < (k : Int) - 4 := by omega
        go_wp2_with (go_at_call 90; refine harm.mono ?_; rintro e w4 ⟨rfl, rfl⟩)
        go_ret3
        rw [hq.out, if_neg (by omega), if_neg (by omega), if_pos (by omega)]
        exact ⟨grown_of_below hb12, rfl⟩
      · have hle := hb12.size
        have hk : (k = 5 ∨ k = 6) ∨ (k = 7 ∨ k = 8) := by omega
        have hq2 : Hid (q = if L2 ≠ log then .stop 2 else if decide ((k : Int) - 4 = 1 ∨ (k : Int) - 4 = 2) = begun then Nx.stop 1 else Nx.frag ((k : Int) - 4).toNat (xs.drop 11)) := by
          unfold Hid
          rw [hq.out, if_neg (by omega), if_neg (by omega), if_neg (by omega)]
        clear hq t2
        by_cases k5 : L2 = log
        · have t5 : ((L2 : Int) != (log : Int)) = false := by rw [k5]; simp
          have hcont : ∀ w4, Below w3.heap.size w3 w4 → RdrIs w4 R bs log true pos begun ∧ Below w.heap.size w w4 := fun w4 hb4 => ⟨hr2.ext hb4, hb12.trans (hb4.mono hle)⟩
          have hcH := hide hcont
          have hc7 := h.cut (k := 11) hn
          clear hcont harm
          rcases hk with hk | hk
          · cases begun
            · have hq3 : Hid (q = Nx.frag ((k : Int) - 4).toNat (xs.drop 11)) := by
                unfold Hid
                rw [hq2.out, if_neg (by omega), if_neg (by simp; omega)]
              clear hq2
              rcases hk with rfl | rfl
              · go_wp2_with fail
                go_at_call 60
                refine hR2.mono ?_
                rintro e w4 ⟨rfl, hb4⟩
                obtain ⟨hr4, hb14⟩ := hcH.out w4 hb4
                obtain ⟨-, d1, d2, d3, d4, d5, g4, g5⟩ := hr4.cells
                simp only [headOf, if_true] at d3
                have harm4 := bad_w R true w4 d2
                clear hR2 c0 c1 c2 c3 c4 c5 f4 f5
                by_cases hcc : c = 11
                · have hn7 : n = 11 := by omega
                  have hc8 : Bsl w B (some ⟨g, o, none⟩) 0 0 (xs.drop 11) := by have := h.cut0 hcc hn; rwa [hn7] at this
                  subst hcc
                  subst hn7
                  go_wp2
                  go_quiet (fail)
                  go_wp2
                  go_ret3
                  exact fragEnd hb14 hr4 hc8 hB hRlt (p := pos + 11) (by simp) (by simp; omega) (t := 1) rfl hq3.out
                · go_wp2
                  go_quiet (fail)
                  go_wp2
                  go_ret3
                  exact fragEnd hb14 hr4 hc7 hB hRlt (p := pos + n) (by simp) (by simp; omega) (t := 1) rfl hq3.out
              · go_wp2_with fail
                go_at_call 60
                refine hR2.mono ?_
                rintro e w4 ⟨rfl, hb4⟩
                obtain ⟨hr4, hb14⟩ := hcH.out w4 hb4
                obtain ⟨-, d1, d2, d3, d4, d5, g4, g5⟩ := hr4.cells
                simp only [headOf, if_true] at d3
                have harm4 := bad_w R true w4 d2
                clear hR2 c0 c1 c2 c3 c4 c5 f4 f5
                by_cases hcc : c = 11
                · have hn7 : n = 11 := by omega
                  have hc8 : Bsl w B (some ⟨g, o, none⟩) 0 0 (xs.drop 11) := by have := h.cut0 hcc hn; rwa [hn7] at this
                  subst hcc
                  subst hn7
                  go_wp2
                  go_quiet (fail)
                  go_wp2
                  go_ret3
                  exact fragEnd hb14 hr4 hc8 hB hRlt (p := pos + 11) (by simp) (by simp; omega) (t := 2) rfl hq3.out
                · go_wp2
                  go_quiet (fail)
                  go_wp2
                  go_ret3
                  exact fragEnd hb14 hr4 hc7 hB hRlt (p := pos + n) (by simp) (by simp; omega) (t := 2) rfl hq3.out
            · have hq3 : Hid (q = Nx.stop 1) := by
                unfold Hid
                rw [hq2.out, if_neg (by omega), if_pos (by simp; omega)]
              clear hq2
              rcases hk with rfl | rfl
              · go_wp2_with fail
                go_at_call 60
                refine hR2.mono ?_
                rintro e w4 ⟨rfl, hb4⟩
                obtain ⟨hr4, hb14⟩ := hcH.out w4 hb4
                obtain ⟨-, d1, d2, d3, d4, d5, g4, g5⟩ := hr4.cells
                simp only [headOf, if_true] at d3
                have harm4 := bad_w R true w4 d2
                clear hR2 c0 c1 c2 c3 c4 c5 f4 f5
                go_wp2_with (go_at_call 90; refine harm4.mono ?_; rintro e w5 ⟨rfl, rfl⟩)
                go_ret3
                rw [hq3.out]
                exact ⟨grown_of_below hb14, rfl⟩
              · go_wp2_with fail
                go_at_call 60
                refine hR2.mono ?_
                rintro e w4 ⟨rfl, hb4⟩
                obtain ⟨hr4, hb14⟩ := hcH.out w4 hb4
                obtain ⟨-, d1, d2, d3, d4, d5, g4, g5⟩ := hr4.cells
                simp only [headOf, if_true] at d3
                have harm4 := bad_w R true w4 d2
                clear hR2 c0 c1 c2 c3 c4 c5 f4 f5
                go_wp2_with (go_at_call 90; refine harm4.mono ?_; rintro e w5 ⟨rfl, rfl⟩)
                go_ret3
                rw [hq3.out]
                exact ⟨grown_of_below hb14, rfl⟩
          · cases begun
            · have hq3 : Hid (q = Nx.stop 1) := by
                unfold Hid
                rw [hq2.out, if_neg (by omega), if_pos (by simp; omega)]
              clear hq2
              rcases hk with rfl | rfl
              · go_wp2_with fail
                go_at_call 60
                refine hR2.mono ?_
                rintro e w4 ⟨rfl, hb4⟩
                obtain ⟨hr4, hb14⟩ := hcH.out w4 hb4
                obtain ⟨-, d1, d2, d3, d4, d5, g4, g5⟩ := hr4.cells
                simp only [headOf, if_true] at d3
                have harm4 := bad_w R true w4 d2
                clear hR2 c0 c1 c2 c3 c4 c5 f4 f5
                go_wp2_with (go_at_call 90; refine harm4.mono ?_; rintro e w5 ⟨rfl, rfl⟩)
                go_ret3
                rw [hq3.out]
                exact ⟨grown_of_below hb14, rfl⟩
              · go_wp2_with fail
                go_at_call 60
                refine hR2.mono ?_
                rintro e w4 ⟨rfl, hb4⟩
                obtain ⟨hr4, hb14⟩ := hcH.out w4 hb4
                obtain ⟨-, d1, d2, d3, d4, d5, g4, g5⟩ := hr4.cells
                simp only [headOf, if_true] at d3
                have harm4 := bad_w R true w4 d2
                clear hR2 c0 c1 c2 c3 c4 c5 f4 f5
                go_wp2_with (go_at_call 90; refine harm4.mono ?_; rintro e w5 ⟨rfl, rfl⟩)
                go_ret3
                rw [hq3.out]
                exact ⟨grown_of_below hb14, rfl⟩
            · have hq3 : Hid (q = Nx.frag ((k : Int) - 4).toNat (xs.drop 11)) := by
                unfold Hid
                rw [hq2.out, if_neg (by omega), if_neg (by simp; omega)]
              clear hq2
              rcases hk with rfl | rfl
              · go_wp2_with fail
                go_at_call 60
                refine hR2.mono ?_
                rintro e w4 ⟨rfl, hb4⟩
                obtain ⟨hr4, hb14⟩ := hcH.out w4 hb4
                obtain ⟨-, d1, d2, d3, d4, d5, g4, g5⟩ := hr4.cells
                simp only [headOf, if_true] at d3
                have harm4 := bad_w R true w4 d2
                clear hR2 c0 c1 c2 c3 c4 c5 f4 f5
                by_cases hcc : c = 11
                · have hn7 : n = 11 := by omega
                  have hc8 : Bsl w B (some ⟨g, o, none⟩) 0 0 (xs.drop 11) := by have := h.cut0 hcc hn; rwa [hn7] at this
                  subst hcc
                  subst hn7
                  go_wp2
                  go_quiet (fail)
                  go_wp2
                  go_ret3
                  exact fragEnd hb14 hr4 hc8 hB hRlt (p := pos + 11) (by simp) (by simp; omega) (t := 3) rfl hq3.out
                · go_wp2
                  go_quiet (fail)
                  go_wp2
                  go_ret3
                  exact fragEnd hb14 hr4 hc7 hB hRlt (p := pos + n) (by simp) (by simp; omega) (t := 3) rfl hq3.out
              · go_wp2_with fail
                go_at_call 60
                refine hR2.mono ?_
                rintro e w4 ⟨rfl, hb4⟩
                obtain ⟨hr4, hb14⟩ := hcH.out w4 hb4
                obtain ⟨-, d1, d2, d3, d4, d5, g4, g5⟩ := hr4.cells
                simp only [headOf, if_true] at d3
                have harm4 := bad_w R true w4 d2
                clear hR2 c0 c1 c2 c3 c4 c5 f4 f5
                by_cases hcc : c = 11
                · have hn7 : n = 11 := by omega
                  have hc8 : Bsl w B (some ⟨g, o, none⟩) 0 0 (xs.drop 11) := by have := h.cut0 hcc hn; rwa [hn7] at this
                  subst hcc
                  subst hn7
                  go_wp2
                  go_quiet (fail)
                  go_wp2
                  go_ret3
                  exact fragEnd hb14 hr4 hc8 hB hRlt (p := pos + 11) (by simp) (by simp; omega) (t := 4) rfl hq3.out
                · go_wp2
                  go_quiet (fail)
                  go_wp2
                  go_ret3
                  exact fragEnd hb14 hr4 hc7 hB hRlt (p := pos + n) (by simp) (by simp; omega) (t := 4) rfl hq3.out
        · have t5 : ((L2 : Int) != (log : Int)) = true := by rw [bne_iff_ne]; omega
          have hq3 : Hid (q = Nx.stop 2) := by
            unfold Hid
            rw [hq2.out, if_pos k5]
          clear hq2
          rcases hk with (rfl | rfl) | (rfl | rfl)
          · go_wp2_with fail
            go_at_call 60
            refine hR2.mono ?_
            rintro e w4 ⟨rfl, hb4⟩
            have hr4 := hr2.ext hb4
            have hb14 : Below w.heap.size w w4 := hb12.trans (hb4.mono hle)
            obtain ⟨-, d1, d2, d3, d4, d5, g4, g5⟩ := hr4.cells
            go_wp2
            go_ret3
            rw [hq3.out]
            exact ⟨grown_of_below hb14, rfl⟩
          · go_wp2_with fail
            go_at_call 60
            refine hR2.mono ?_
            rintro e w4 ⟨rfl, hb4⟩
            have hr4 := hr2.ext hb4
            have hb14 : Below w.heap.size w w4 := hb12.trans (hb4.mono hle)
            obtain ⟨-, d1, d2, d3, d4, d5, g4, g5⟩ := hr4.cells
            go_wp2
            go_ret3
            rw [hq3.out]
            exact ⟨grown_of_below hb14, rfl⟩
          · go_wp2_with fail
            go_at_call 60
            refine hR2.mono ?_
            rintro e w4 ⟨rfl, hb4⟩
            have hr4 := hr2.ext hb4
            have hb14 : Below w.heap.size w w4 := hb12.trans (hb4.mono hle)
            obtain ⟨-, d1, d2, d3, d4, d5, g4, g5⟩ := hr4.cells
            go_wp2
            go_ret3
            rw [hq3.out]
            exact ⟨grown_of_below hb14, rfl⟩
          · go_wp2_with fail
            go_at_call 60
            refine hR2.mono ?_
            rintro e w4 ⟨rfl, hb4⟩
            have hr4 := hr2.ext hb4
            have hb14 : Below w.heap.size w w4 := hb12.trans (hb4.mono hle)
            obtain ⟨-, d1, d2, d3, d4, d5, g4, g5⟩ := hr4.cells
            go_wp2
            go_ret3
            rw [hq3.out]
            exact ⟨grown_of_below hb14, rfl⟩
  · have t1 : ((M : Int) != (L : Int)) = true := by rw [bne_iff_ne]; omega
    go_wp2_with (go_at_call 90; refine harm.mono ?_; rintro e w4 ⟨rfl, rfl⟩)
    go_ret3
    rw [hq.out, if_pos k1]
    exact ⟨grown_of_below hb12, rfl⟩
theorem frag_w (R B : Nat) (bs : Value) (log pos n c : Nat) (rec begun : Bool) (A : Option Addr) (xs : List UInt8) (w : World) (hB : B ≤ R) (hr : RdrIs w R bs log rec pos begun)
    (h : Bsl w B A n c xs) (hn : headOf rec ≤ n) (hpos : pos + n ≤ 4611686018427387904) :
    Calls Try.prog 91 #[.pointer (some ⟨R, 0, none⟩), .slice A n c] w (FragPost w R bs log rec (fun k => pos + (headOf rec + k)) begun B (fragP log rec begun xs)) := by
  cases rec
  · exact fragF_w R B bs log pos n c begun A xs w hB hr h hn hpos
  · exact fragT_w R B bs log pos n c begun A xs w hB hr h hn hpos
end Go.Proofs.Ytonhhbebpcaaeaa
