/- The walk of wal.Read. -/
import Derived.Test.YtonhhbebpcaaeaaWalP
import Derived.Test.YtonhhbebpcaaeaaApp
import Derived.Test.YtonhhbebpcaaeaaFixed
namespace Go.Proofs.Ytonhhbebpcaaeaa
open Go.RowKit

theorem info_bytes : (Try.prog.info? 22).map (fun i => (i.zero, i.size, i.bytes)) = some (some (.slice none 0 0), 1, 24) := by kernel_rfl

/-- The answer of a read: the slice v of slices reads as the rows. -/
def RecsV (w : World) (v : Value) (acc : List (List UInt8)) : Prop := ∃ A c vals, v = .slice A acc.length c ∧ acc.length ≤ c ∧ c ≤ maxLen ∧ vals.length = acc.length ∧ Rd w w.heap.size A vals ∧ Recs w 0 (fun _ => False) vals acc

theorem RecsV.of_own {w : World} {b base : Nat} {e : TypeId} {v : Value} {acc : List (List UInt8)} {vals : List Value} {nos : Nat → Prop} (h : w.ownsRow b e 1 v acc.length vals) (hr : Recs w base nos vals acc) : RecsV w v acc := by
  have hR : Recs w 0 (fun _ => False) vals acc := ⟨hr.1, fun i r hi => by
    obtain ⟨A, n, c, h1, h2, h3⟩ := hr.2 i r hi
    exact ⟨A, n, c, h1, h2, fun g o e => ⟨Nat.zero_le _, (h3 g o e).2.1, fun hf => hf⟩⟩⟩
  rcases h.2 with ⟨rfl, h0⟩ | ⟨g, cap, cur, rfl, hb, hh, hnc, hcm, _⟩
  · have hv : vals = [] := List.eq_nil_of_length_eq_zero (by rw [h.1, h0])
    exact ⟨none, 0, vals, by rw [h0], by omega, by unfold maxLen; omega, hr.1, .inl hv, hR⟩
  · exact ⟨_, cap, vals, rfl, hnc, hcm, hr.1, .of_own h, hR⟩

def posIn (R : Nat) (w : World) : Nat := match w.cell? ⟨R, 4, none⟩ with
  | some (.int _ q) => q.toNat
  | _ => 0
theorem posIn_of {w : World} {R : Nat} {bs : Value} {log : Nat} {rec : Bool} {pos : Nat} {begun : Bool} (h : RdrIs w R bs log rec pos begun) : posIn R w = pos := by
  unfold posIn
  rw [h.cells.2.2.2.2.1]
  simp

theorem own_one {w : World} {b : Nat} {e : TypeId} {s : Nat} {v : Value} {n : Nat} {xs : List Value} (h : w.ownsRow b e s v n xs) : v.oneCell' = true := by
  rcases h.2 with ⟨rfl, _⟩ | ⟨g, cap, cur, rfl, _⟩ <;> rfl
/-- What an append onto the record leaves of all else. -/
theorem readStep {w w2 w3 : World} {G : Nat} {bs : Value} {log : Nat} {rec : Bool} {pos : Nat} {begun : Bool} {vo vr v3 : Value} {n m : Nat} {vals : List Value} {acc : List (List UInt8)} {rs : List Value}
    (hr : RdrIs w2 G bs log rec pos begun) (hoo : w2.ownsRow (G + 1) 22 1 vo n vals) (hor : w2.ownsRow (G + 1) 5 1 vr m rs) (hrecs : Recs w2 (G + 1) (fun g => vo.ownBlock = some g ∨ vr.ownBlock = some g) vals acc) (hb : Below G w w2)
    (hg : w2.grownBy w3 vr.ownBlock) (hat : v3.ownBlock = vr.ownBlock ∨ v3.ownBlock = some w2.heap.size) :
    RdrIs w3 G bs log rec pos begun ∧ w3.ownsRow (G + 1) 22 1 vo n vals ∧ Recs w3 (G + 1) (fun g => vo.ownBlock = some g ∨ v3.ownBlock = some g) vals acc ∧ Below G w w3 := by
  refine ⟨Blk.grown hr hg (fun e => by have := (hor.lt G e.symm).1; omega), hoo.kept hg (own_ne hoo hor (by decide)), hrecs.grown hg (fun g e _ => .inr e) (fun g hb hlt hc => ?_), hb.grown hg (by have := hr.lt; omega) (fun g e => by have := (hor.lt g e).1; omega)⟩
  rcases hc with hc | hc
  · exact .inl hc
  · rcases hat with h | h
    · exact .inr (by rw [← h]; exact hc)
    · rw [h] at hc; injection hc with hc; omega

/-- What an append of the record onto the records leaves. -/
theorem readOut {w w3 w5 : World} {G : Nat} {bs : Value} {log : Nat} {rec : Bool} {pos : Nat} {begun b : Bool} {vo v5 : Value} {m c3 : Nat} {A3 : Option Addr} {vals : List Value} {acc : List (List UInt8)} {row : List UInt8} {o : Obj}
    (hr : RdrIs w3 G bs log rec pos begun) (hoo : w3.ownsRow (G + 1) 22 1 vo acc.length vals) (hor : w3.ownsRow (G + 1) 5 1 (.slice A3 m c3) m (row.map eB)) (hrecs : Recs w3 (G + 1) (fun g => vo.ownBlock = some g ∨ (Value.slice A3 m c3).ownBlock = some g) vals acc) (hb : Below G w w3) (hm : m ≤ maxB)
    (hown5 : w5.ownsRow (G + 1) 22 1 v5 (acc.length + 1) (vals ++ [Value.slice A3 m c3])) (hg : ((w3.setCell ⟨G, 5, none⟩ (.bool b)).alloc o).grownBy w5 vo.ownBlock)
    (hat : v5.ownBlock = vo.ownBlock ∨ v5.ownBlock = some ((w3.setCell ⟨G, 5, none⟩ (.bool b)).alloc o).heap.size) :
    RdrIs w5 G bs log rec pos b ∧ Recs w5 (G + 1) (fun g => v5.ownBlock = some g ∨ (Value.slice none 0 0).ownBlock = some g) (vals ++ [Value.slice A3 m c3]) (acc ++ [row]) ∧ Below G w w5 := by
  have hlt := hr.lt
  have hr4 : RdrIs ((w3.setCell ⟨G, 5, none⟩ (.bool b)).alloc o) G bs log rec pos b := Blk.alloc (Blk.set hr 5 _) _
  have hor4 := (ownsRow_setCell_below hor (a := ⟨G, 5, none⟩) (by simp) (.bool b)).alloc o
  have hg4 : w3.grownBy ((w3.setCell ⟨G, 5, none⟩ (.bool b)).alloc o) (some G) := (grown_set (World.grownBy.refl w3 _)).trans (World.grownBy_alloc _ o _)
  have hrecs4 := hrecs.grown (nos' := fun g => vo.ownBlock = some g ∨ (Value.slice A3 m c3).ownBlock = some g) hg4 (fun g e hb => by injection e with e; omega) (fun g _ _ h => h)
  have hb4 : Below G w ((w3.setCell ⟨G, 5, none⟩ (.bool b)).alloc o) := (hb.setCell (p := ⟨G, 5, none⟩) (Nat.le_refl _) _).alloc (by simp; omega) _
  have hlt4 := hr4.lt
  generalize (w3.setCell ⟨G, 5, none⟩ (.bool b)).alloc o = w4 at *
  have hoo4 : ∀ g, vo.ownBlock = some g → G + 1 ≤ g := fun g e => (hoo.lt g e).1
  have hor5 : w5.ownsRow (G + 1) 5 1 (.slice A3 m c3) m (row.map eB) := hor4.kept hg (by
    rcases own_ne hor hoo (by decide) with h | h
    · exact .inl h
    · exact .inr h)
  have hbsl := Bsl.of_own hor5 hm
  refine ⟨Blk.grown hr4 hg (fun e => by have := hoo4 G e.symm; omega), ?_, hb4.grown hg (by omega) (fun g e => by have := hoo4 g e; omega)⟩
  refine Recs.snoc (hrecs4.grown hg (fun g e _ => .inl e) (fun g hb hlt hc => ?_)) hbsl (fun g o e => ?_)
  · rcases hc with hc | hc
    · rcases hat with h | h
      · exact .inl (by rw [← h]; exact hc)
      · rw [h] at hc; injection hc with hc; omega
    · simp [Value.ownBlock] at hc
  · have hlt5 := hor5.lt g (by rw [e]; rfl)
    refine ⟨hlt5.1, hlt5.2, fun hc => ?_⟩
    rcases hc with hc | hc
    · rcases own_ne hor5 hown5 (by decide) with h | h
      · rw [e] at h; simp [Value.ownBlock] at h
      · exact h (by rw [hc, e]; rfl)
    · simp [Value.ownBlock] at hc
theorem RdrIs.drewN {w : World} {R : Nat} {bs : Value} {log : Nat} {rec : Bool} {pos : Nat} {begun : Bool} (h : RdrIs w R bs log rec pos begun) (k : Nat) : RdrIs (w.drewN k) R bs log rec pos begun := h
theorem Recs.drewN {w : World} {base : Nat} {nos : Nat → Prop} {vals : List Value} {acc : List (List UInt8)} (h : Recs w base nos vals acc) (k : Nat) : Recs (w.drewN k) base nos vals acc :=
  ⟨h.1, fun i r hi => let ⟨A, n, c, h1, h2, h3⟩ := h.2 i r hi; ⟨A, n, c, h1, h2.drewN k, h3⟩⟩
theorem own_drewN {w : World} {b : Nat} {e : TypeId} {s : Nat} {v : Value} {n : Nat} {xs : List Value} (h : w.ownsRow b e s v n xs) (k : Nat) : (w.drewN k).ownsRow b e s v n xs := h

set_option maxRecDepth 100000 in
set_option maxHeartbeats 4000000 in
theorem read_1 (log n c : Nat) (A : Option Addr) (xs : List UInt8) (w : World) (h : Bsl w w.heap.size A n c xs) (hn : n ≤ 1073741824) (h7 : 7 ≤ n) (_k4 : 4 < (xs.getD 6 0).toNat) (k8 : (xs.getD 6 0).toNat ≤ 8) :
    Calls Try.prog 9 #[.slice A n c, .int .u32 (log : Nat)] w fun e w' => ∃ v, e = .returned (.tuple #[v, .int .i64 ((readAll xs log).2.1 : Nat), .int .i64 ((readAll xs log).2.2 : Nat)]) ∧ RecsV w' v (readAll xs log).1 ∧ Below w.heap.size w w' := by
  have hlen := h.len
  have hcap := h.cap
  have hbig := h.big
  unfold maxLen at hbig
  have hrec : Hid (recOf xs = (decide (7 ≤ xs.length) && (decide (4 < (xs.getD 6 0).toNat) && decide ((xs.getD 6 0).toNat ≤ 8)))) := rfl
  rw [hlen] at hrec
  obtain ⟨i0, hi0, hz0, hz1, hz2⟩ := info_parts info_byte
  obtain ⟨j0, hj0, hy0, hy1, hy2⟩ := info_parts info_bytes
  have tbig : decide ((1073741824 : Int) < (n : Int)) = false := by simp; omega
  obtain ⟨g, o, rfl, hg, hcell⟩ := h.at_ (k := 6) (by omega)
  have hx := (xs.getD 6 0).toNat_lt
  generalize (xs.getD 6 0).toNat = k at *
  have t7 : decide ((7 : Int) ≤ (n : Int)) = true := by simp; omega
  have t4 : decide ((4 : Int) < (k : Int)) = true := by simp; omega
  have t8 : decide ((k : Int) ≤ 8) = true := by simp; omega
  go_enter Try.func9, Try.ntmps9
  go_wp2
  have hrecv : recOf xs = true := by rw [hrec.out]; simp; omega
  have hr0 : RdrIs (w.alloc (Obj.cells #[Value.slice (some ⟨g, o, none⟩) n c, Value.int IntKind.u32 (log : Nat), Value.bool true, Value.int IntKind.i64 11, Value.int IntKind.i64 0, Value.bool false] 87)) w.heap.size (.slice (some ⟨g, o, none⟩) n c) log (recOf xs) 0 false := by
    rw [hrecv]; exact Blk.new _ _ _
  have hb0 : Below w.heap.size w (w.alloc (Obj.cells #[Value.slice (some ⟨g, o, none⟩) n c, Value.int IntKind.u32 (log : Nat), Value.bool true, Value.int IntKind.i64 11, Value.int IntKind.i64 0, Value.bool false] 87)) := (Below.refl _ _).alloc (Nat.le_refl _) _
  have hRES : Hid (readP xs log (recOf xs) (n + 1) 0 false [] [] 0 = readAll xs log) := by unfold Hid readAll; rw [hlen]
  clear hrec hrecv
  generalize w.alloc (Obj.cells #[Value.slice (some ⟨g, o, none⟩) n c, Value.int IntKind.u32 (log : Nat), Value.bool true, Value.int IntKind.i64 11, Value.int IntKind.i64 0, Value.bool false] 87) = W0 at *
  generalize recOf xs = rec at *
  have hs0 := hr0.lt
  generalize hG : w.heap.size = G at *
  have hG2 := hide hG
  clear hG
  go_loopw [8, 9, 10] (fun vo vr pl wr => ∃ (pos f place : Nat) (begun : Bool) (now : List UInt8) (acc : List (List UInt8)) (vals : List Value), pl = .int .i64 (place : Nat) ∧ RdrIs wr G (.slice (some ⟨g, o, none⟩) n c) log rec pos begun ∧ Below G w wr ∧ pos ≤ n ∧
      wr.ownsRow (G + 1) 22 1 vo acc.length vals ∧ wr.ownsRow (G + 1) 5 1 vr now.length (now.map eB) ∧ Recs wr (G + 1) (fun g => vo.ownBlock = some g ∨ vr.ownBlock = some g) vals acc ∧
      now.length ≤ pos ∧ acc.length ≤ pos ∧ place ≤ n ∧ n - pos < f ∧ Hid (readP xs log rec f pos begun now acc place = readAll xs log)) (fun _ _ _ wr => n - posIn G wr)
  case atStart => exact ⟨0, n + 1, 0, false, [], [], [], rfl, hr0, hb0, by omega, World.ownsRow_nil _ _ _ _, World.ownsRow_nil _ _ _ _, Recs.nil _ _ _, by simp, by simp, by omega, by omega, hRES⟩
  case round =>
    obtain ⟨pos, f, place, begun, now, acc, vals, rfl, hr, hbw, hpos, hoo, hor, hrecs, hnl, hal, hpl, hf, hH⟩ := hrel
    have hnx := next_w G G log pos n c rec begun (some ⟨g, o, none⟩) xs wr (Nat.le_refl _) hr (h.below hbw) hpos hn
    have hqf := hide (fun t x (hh : nextP xs log rec begun pos = Nx.frag t x) => nextP_frag hh (by omega))
    have hstop := hide (fun how (hh : nextP xs log rec begun pos = Nx.stop how) => (readP_stop (now := now) (acc := acc) (place := place) (f := f) hh (by omega)).symm.trans hH.out)
    have hmid := hide (fun t x (hh : nextP xs log rec begun pos = Nx.frag t x) (ht : t = 2 ∨ t = 3) => (readP_mid (now := now) (acc := acc) (place := place) (f := f) hh (by omega) ht).symm.trans hH.out)
    have hend := hide (fun t x (hh : nextP xs log rec begun pos = Nx.frag t x) (ht : ¬ (t = 2 ∨ t = 3)) => (readP_end (now := now) (acc := acc) (place := place) (f := f) hh (by omega) ht).symm.trans hH.out)
    have hpw := hide (posIn_of hr)
    have hsr := hbw.size
    generalize nextP xs log rec begun pos = q at *
    clear hH
    go_wp2_with fail
    go_at_call 38
    refine hnx.mono ?_
    rintro e w2 ⟨hg, hm⟩
    have hbw2 : Below G w w2 := hbw.trans (below_of_grown hg (Nat.le_refl _) (by have := hr.lt; omega))
    have hoo2 := hoo.kept hg (.inr (fun e => by have := (hoo.lt G e).1; omega))
    have hor2 := hor.kept hg (.inr (fun e => by have := (hor.lt G e).1; omega))
    have hrecs2 : Recs w2 (G + 1) (fun g => u8.ownBlock = some g ∨ u9.ownBlock = some g) vals acc := hrecs.grown hg (fun g e hb => by injection e with e; omega) (fun g _ _ h => h)
    cases q with
    | stop how =>
      obtain rfl := hm
      have t1 : ((how : Int) != (-1)) = true := by rw [bne_iff_ne]; omega
      have hres := hide (hstop.out how rfl)
      clear hstop hmid hend hqf
      go_wp2
      go_ret3
      rw [← hres.out]
      exact ⟨_, rfl, .of_own hoo2 hrecs2, by rw [hG2.out]; exact hbw2⟩
    | frag t x =>
      obtain ⟨A', n', c', rfl, hx1, hr2⟩ := hm
      dsimp only at hr2
      have hq1 := hqf.out t x rfl
      have hlx := hx1.len
      subst hlx
      have hx3 := hx1.rd
      have hs2 := hbw2.size
      have hle2 : G < w2.heap.size := hr2.lt
      clear hqf hstop
      generalize hpos' : baseP xs rec pos + (headOf rec + x.length) = pos' at *
      have hH1 := (headOf_bd rec).1
      have hp1 : pos + 7 + x.length ≤ pos' := by omega
      have hp2 : pos' ≤ n := by omega
      have hpH := hide hpos'
      clear hpos'
      have ht : (t = 2 ∨ t = 3) ∨ (t = 1 ∨ t = 4) := by omega
      rcases ht with ht | ht
      · have hres := hide (hmid.out t x rfl ht)
        rw [hpH.out] at hres
        clear hmid hend
        rcases ht with rfl | rfl
        · go_wp2_with (at_builtin; refine wpList_append_rd _ rfl (.tmp 53) (.tmp 54) _ rfl (G + 1) 5 i0 _ 1 1 Try.underlying22 hi0 hz0 hz1 hz2 rfl (by decide) _ _ _ rfl hor2 G A' x.length c' (x.map eB) rfl (by simp) hx3 (eB_one x) (by unfold maxLen; omega) (by omega) (by omega) ?_; intro v3 w3 hown3 hg3 hat3; obtain ⟨hr3, hoo3, hrecs3, hbw3⟩ := readStep hr2 hoo2 hor2 hrecs2 hbw2 hg3 hat3; have hs3 := hr3.lt; obtain ⟨c0, c1, c2, c3, c4, c5, f4, f5⟩ := hr3.cells; have hoo4 := ownsRow_setCell_below hoo3 (a := ⟨G, 5, none⟩) (by simp) (.bool true); obtain ⟨A3, cap3, rfl, hA3⟩ := own_form hown3)
          go_roundw
          case rel =>
            have hrec4 : Recs (w3.setCell ⟨G, 5, none⟩ (.bool true)) (G + 1) (fun g => u8.ownBlock = some g ∨ (Value.slice A3 (now.length + x.length) cap3).ownBlock = some g) vals acc :=
              hrecs3.grown (grown_set (World.grownBy.refl w3 (some G))) (fun g e hb => by injection e with e; omega) (fun g _ _ h => h)
            have hor4 := ownsRow_setCell_below hown3 (a := ⟨G, 5, none⟩) (by simp) (.bool true)
            exact ⟨pos', f - 1, place, true, now ++ x, acc, vals, rfl, Blk.set hr3 5 _, hbw3.setCell (p := ⟨G, 5, none⟩) (Nat.le_refl _) _, hp2, hoo4, by simpa using hor4, hrec4, by simp; omega, by omega, hpl, by omega, hres⟩
          case measure => rw [hpw.out, posIn_of (Blk.set hr3 5 (.bool true) : RdrIs _ G _ log rec pos' true)]; omega
        · go_wp2_with (at_builtin; refine wpList_append_rd _ rfl (.tmp 53) (.tmp 54) _ rfl (G + 1) 5 i0 _ 1 1 Try.underlying22 hi0 hz0 hz1 hz2 rfl (by decide) _ _ _ rfl hor2 G A' x.length c' (x.map eB) rfl (by simp) hx3 (eB_one x) (by unfold maxLen; omega) (by omega) (by omega) ?_; intro v3 w3 hown3 hg3 hat3; obtain ⟨hr3, hoo3, hrecs3, hbw3⟩ := readStep hr2 hoo2 hor2 hrecs2 hbw2 hg3 hat3; have hs3 := hr3.lt; obtain ⟨c0, c1, c2, c3, c4, c5, f4, f5⟩ := hr3.cells; have hoo4 := ownsRow_setCell_below hoo3 (a := ⟨G, 5, none⟩) (by simp) (.bool true); obtain ⟨A3, cap3, rfl, hA3⟩ := own_form hown3)
          go_roundw
          case rel =>
            have hrec4 : Recs (w3.setCell ⟨G, 5, none⟩ (.bool true)) (G + 1) (fun g => u8.ownBlock = some g ∨ (Value.slice A3 (now.length + x.length) cap3).ownBlock = some g) vals acc :=
              hrecs3.grown (grown_set (World.grownBy.refl w3 (some G))) (fun g e hb => by injection e with e; omega) (fun g _ _ h => h)
            have hor4 := ownsRow_setCell_below hown3 (a := ⟨G, 5, none⟩) (by simp) (.bool true)
            exact ⟨pos', f - 1, place, true, now ++ x, acc, vals, rfl, Blk.set hr3 5 _, hbw3.setCell (p := ⟨G, 5, none⟩) (Nat.le_refl _) _, hp2, hoo4, by simpa using hor4, hrec4, by simp; omega, by omega, hpl, by omega, hres⟩
          case measure => rw [hpw.out, posIn_of (Blk.set hr3 5 (.bool true) : RdrIs _ G _ log rec pos' true)]; omega
      · have hres := hide (hend.out t x rfl (by omega))
        rw [hpH.out] at hres
        clear hmid hend
        rcases ht with rfl | rfl
        · go_wp2_with (first
            | (at_builtin; refine wpList_append_rd _ rfl (.tmp 53) (.tmp 54) _ rfl (G + 1) 5 i0 _ 1 1 Try.underlying22 hi0 hz0 hz1 hz2 rfl (by decide) _ _ _ rfl hor2 G A' x.length c' (x.map eB) rfl (by simp) hx3 (eB_one x) (by unfold maxLen; omega) (by omega) (by omega) ?_; intro v3 w3 hown3 hg3 hat3; obtain ⟨hr3, hoo3, hrecs3, hbw3⟩ := readStep hr2 hoo2 hor2 hrecs2 hbw2 hg3 hat3; have hs3 := hr3.lt; obtain ⟨c0, c1, c2, c3, c4, c5, f4, f5⟩ := hr3.cells; have hoo4 := ownsRow_setCell_below hoo3 (a := ⟨G, 5, none⟩) (by simp) (.bool false); obtain ⟨A3, cap3, rfl, hA3⟩ := own_form hown3)
            | (at_builtin; (refine wpList_append_own_at _ rfl (.tmp 70) (.tmp 72) _ rfl (G + 1) 22 j0 _ 1 24 Try.underlying24 hj0 hy0 hy1 hy2 rfl (by decide) _ _ _ rfl (hoo4.alloc _) _ 1 1 [.slice A3 (now.length + x.length) cap3] rfl rfl (cell_one_at _ _ _ _ (by simp)) (by simp [Value.oneCell']) (by unfold maxLen; omega) (by omega) (by simp; omega) ?_; intro v5 w5 hown5 hg5 _ hat5; obtain ⟨hr5, hrecs5, hbw5⟩ := readOut hr3 hoo3 (by rw [List.map_append]; exact hown3) hrecs3 hbw3 (by unfold maxB; omega) hown5 hg5 hat5; obtain ⟨d0, d1, d2, d3, d4, d5, g4, g5⟩ := hr5.cells)))
          go_quiet (fail)
          go_roundw
          case rel =>
            repeat apply Exists.intro
            exact ⟨⟨pos', f - 1, pos', false, [], acc ++ [now ++ x], _, rfl, hr5.drewN _, below_drewN hbw5 _, hp2, own_drewN (by simpa using hown5) _, World.ownsRow_nil _ _ _ _, hrecs5.drewN _, by simp, by simp; omega, hp2, by omega, hres⟩, rfl⟩
          case measure => rw [hpw.out, posIn_of (hr5.drewN _)]; omega
        · go_wp2_with (first
            | (at_builtin; refine wpList_append_rd _ rfl (.tmp 53) (.tmp 54) _ rfl (G + 1) 5 i0 _ 1 1 Try.underlying22 hi0 hz0 hz1 hz2 rfl (by decide) _ _ _ rfl hor2 G A' x.length c' (x.map eB) rfl (by simp) hx3 (eB_one x) (by unfold maxLen; omega) (by omega) (by omega) ?_; intro v3 w3 hown3 hg3 hat3; obtain ⟨hr3, hoo3, hrecs3, hbw3⟩ := readStep hr2 hoo2 hor2 hrecs2 hbw2 hg3 hat3; have hs3 := hr3.lt; obtain ⟨c0, c1, c2, c3, c4, c5, f4, f5⟩ := hr3.cells; have hoo4 := ownsRow_setCell_below hoo3 (a := ⟨G, 5, none⟩) (by simp) (.bool false); obtain ⟨A3, cap3, rfl, hA3⟩ := own_form hown3)
            | (at_builtin; (refine wpList_append_own_at _ rfl (.tmp 70) (.tmp 72) _ rfl (G + 1) 22 j0 _ 1 24 Try.underlying24 hj0 hy0 hy1 hy2 rfl (by decide) _ _ _ rfl (hoo4.alloc _) _ 1 1 [.slice A3 (now.length + x.length) cap3] rfl rfl (cell_one_at _ _ _ _ (by simp)) (by simp [Value.oneCell']) (by unfold maxLen; omega) (by omega) (by simp; omega) ?_; intro v5 w5 hown5 hg5 _ hat5; obtain ⟨hr5, hrecs5, hbw5⟩ := readOut hr3 hoo3 (by rw [List.map_append]; exact hown3) hrecs3 hbw3 (by unfold maxB; omega) hown5 hg5 hat5; obtain ⟨d0, d1, d2, d3, d4, d5, g4, g5⟩ := hr5.cells)))
          go_quiet (fail)
          go_roundw
          case rel =>
            repeat apply Exists.intro
            exact ⟨⟨pos', f - 1, pos', false, [], acc ++ [now ++ x], _, rfl, hr5.drewN _, below_drewN hbw5 _, hp2, own_drewN (by simpa using hown5) _, World.ownsRow_nil _ _ _ _, hrecs5.drewN _, by simp, by simp; omega, hp2, by omega, hres⟩, rfl⟩
          case measure => rw [hpw.out, posIn_of (hr5.drewN _)]; omega

set_option maxRecDepth 100000 in
set_option maxHeartbeats 4000000 in
theorem read_2 (log n c : Nat) (A : Option Addr) (xs : List UInt8) (w : World) (h : Bsl w w.heap.size A n c xs) (hn : n ≤ 1073741824) (h7 : 7 ≤ n) (_k4 : 4 < (xs.getD 6 0).toNat) (k8 : ¬ (xs.getD 6 0).toNat ≤ 8) :
    Calls Try.prog 9 #[.slice A n c, .int .u32 (log : Nat)] w fun e w' => ∃ v, e = .returned (.tuple #[v, .int .i64 ((readAll xs log).2.1 : Nat), .int .i64 ((readAll xs log).2.2 : Nat)]) ∧ RecsV w' v (readAll xs log).1 ∧ Below w.heap.size w w' := by
  have hlen := h.len
  have hcap := h.cap
  have hbig := h.big
  unfold maxLen at hbig
  have hrec : Hid (recOf xs = (decide (7 ≤ xs.length) && (decide (4 < (xs.getD 6 0).toNat) && decide ((xs.getD 6 0).toNat ≤ 8)))) := rfl
  rw [hlen] at hrec
  obtain ⟨i0, hi0, hz0, hz1, hz2⟩ := info_parts info_byte
  obtain ⟨j0, hj0, hy0, hy1, hy2⟩ := info_parts info_bytes
  have tbig : decide ((1073741824 : Int) < (n : Int)) = false := by simp; omega
  obtain ⟨g, o, rfl, hg, hcell⟩ := h.at_ (k := 6) (by omega)
  have hx := (xs.getD 6 0).toNat_lt
  generalize (xs.getD 6 0).toNat = k at *
  have t7 : decide ((7 : Int) ≤ (n : Int)) = true := by simp; omega
  have t4 : decide ((4 : Int) < (k : Int)) = true := by simp; omega
  have t8 : decide ((k : Int) ≤ 8) = false := by simp; omega
  go_enter Try.func9, Try.ntmps9
  go_wp2
  have hrecv : recOf xs = false := by rw [hrec.out]; simp; omega
  have hr0 : RdrIs (w.alloc (Obj.cells #[Value.slice (some ⟨g, o, none⟩) n c, Value.int IntKind.u32 (log : Nat), Value.bool false, Value.int IntKind.i64 7, Value.int IntKind.i64 0, Value.bool false] 87)) w.heap.size (.slice (some ⟨g, o, none⟩) n c) log (recOf xs) 0 false := by
    rw [hrecv]; exact Blk.new _ _ _
  have hb0 : Below w.heap.size w (w.alloc (Obj.cells #[Value.slice (some ⟨g, o, none⟩) n c, Value.int IntKind.u32 (log : Nat), Value.bool false, Value.int IntKind.i64 7, Value.int IntKind.i64 0, Value.bool false] 87)) := (Below.refl _ _).alloc (Nat.le_refl _) _
  have hRES : Hid (readP xs log (recOf xs) (n + 1) 0 false [] [] 0 = readAll xs log) := by unfold Hid readAll; rw [hlen]
  clear hrec hrecv
  generalize w.alloc (Obj.cells #[Value.slice (some ⟨g, o, none⟩) n c, Value.int IntKind.u32 (log : Nat), Value.bool false, Value.int IntKind.i64 7, Value.int IntKind.i64 0, Value.bool false] 87) = W0 at *
  generalize recOf xs = rec at *
  have hs0 := hr0.lt
  generalize hG : w.heap.size = G at *
  have hG2 := hide hG
  clear hG
  go_loopw [8, 9, 10] (fun vo vr pl wr => ∃ (pos f place : Nat) (begun : Bool) (now : List UInt8) (acc : List (List UInt8)) (vals : List Value), pl = .int .i64 (place : Nat) ∧ RdrIs wr G (.slice (some ⟨g, o, none⟩) n c) log rec pos begun ∧ Below G w wr ∧ pos ≤ n ∧
      wr.ownsRow (G + 1) 22 1 vo acc.length vals ∧ wr.ownsRow (G + 1) 5 1 vr now.length (now.map eB) ∧ Recs wr (G + 1) (fun g => vo.ownBlock = some g ∨ vr.ownBlock = some g) vals acc ∧
      now.length ≤ pos ∧ acc.length ≤ pos ∧ place ≤ n ∧ n - pos < f ∧ Hid (readP xs log rec f pos begun now acc place = readAll xs log)) (fun _ _ _ wr => n - posIn G wr)
  case atStart => exact ⟨0, n + 1, 0, false, [], [], [], rfl, hr0, hb0, by omega, World.ownsRow_nil _ _ _ _, World.ownsRow_nil _ _ _ _, Recs.nil _ _ _, by simp, by simp, by omega, by omega, hRES⟩
  case round =>
    obtain ⟨pos, f, place, begun, now, acc, vals, rfl, hr, hbw, hpos, hoo, hor, hrecs, hnl, hal, hpl, hf, hH⟩ := hrel
    have hnx := next_w G G log pos n c rec begun (some ⟨g, o, none⟩) xs wr (Nat.le_refl _) hr (h.below hbw) hpos hn
    have hqf := hide (fun t x (hh : nextP xs log rec begun pos = Nx.frag t x) => nextP_frag hh (by omega))
    have hstop := hide (fun how (hh : nextP xs log rec begun pos = Nx.stop how) => (readP_stop (now := now) (acc := acc) (place := place) (f := f) hh (by omega)).symm.trans hH.out)
    have hmid := hide (fun t x (hh : nextP xs log rec begun pos = Nx.frag t x) (ht : t = 2 ∨ t = 3) => (readP_mid (now := now) (acc := acc) (place := place) (f := f) hh (by omega) ht).symm.trans hH.out)
    have hend := hide (fun t x (hh : nextP xs log rec begun pos = Nx.frag t x) (ht : ¬ (t = 2 ∨ t = 3)) => (readP_end (now := now) (acc := acc) (place := place) (f := f) hh (by omega) ht).symm.trans hH.out)
    have hpw := hide (posIn_of hr)
    have hsr := hbw.size
    generalize nextP xs log rec begun pos = q at *
    clear hH
    go_wp2_with fail
    go_at_call 38
    refine hnx.mono ?_
    rintro e w2 ⟨hg, hm⟩
    have hbw2 : Below G w w2 := hbw.trans (below_of_grown hg (Nat.le_refl _) (by have := hr.lt; omega))
    have hoo2 := hoo.kept hg (.inr (fun e => by have := (hoo.lt G e).1; omega))
    have hor2 := hor.kept hg (.inr (fun e => by have := (hor.lt G e).1; omega))
    have hrecs2 : Recs w2 (G + 1) (fun g => u8.ownBlock = some g ∨ u9.ownBlock = some g) vals acc := hrecs.grown hg (fun g e hb => by injection e with e; omega) (fun g _ _ h => h)
    cases q with
    | stop how =>
      obtain rfl := hm
      have t1 : ((how : Int) != (-1)) = true := by rw [bne_iff_ne]; omega
      have hres := hide (hstop.out how rfl)
      clear hstop hmid hend hqf
      go_wp2
      go_ret3
      rw [← hres.out]
      exact ⟨_, rfl, .of_own hoo2 hrecs2, by rw [hG2.out]; exact hbw2⟩
    | frag t x =>
      obtain ⟨A', n', c', rfl, hx1, hr2⟩ := hm
      dsimp only at hr2
      have hq1 := hqf.out t x rfl
      have hlx := hx1.len
      subst hlx
      have hx3 := hx1.rd
      have hs2 := hbw2.size
      have hle2 : G < w2.heap.size := hr2.lt
      clear hqf hstop
      generalize hpos' : baseP xs rec pos + (headOf rec + x.length) = pos' at *
      have hH1 := (headOf_bd rec).1
      have hp1 : pos + 7 + x.length ≤ pos' := by omega
      have hp2 : pos' ≤ n := by omega
      have hpH := hide hpos'
      clear hpos'
      have ht : (t = 2 ∨ t = 3) ∨ (t = 1 ∨ t = 4) := by omega
      rcases ht with ht | ht
      · have hres := hide (hmid.out t x rfl ht)
        rw [hpH.out] at hres
        clear hmid hend
        rcases ht with rfl | rfl
        · go_wp2_with (at_builtin; refine wpList_append_rd _ rfl (.tmp 53) (.tmp 54) _ rfl (G + 1) 5 i0 _ 1 1 Try.underlying22 hi0 hz0 hz1 hz2 rfl (by decide) _ _ _ rfl hor2 G A' x.length c' (x.map eB) rfl (by simp) hx3 (eB_one x) (by unfold maxLen; omega) (by omega) (by omega) ?_; intro v3 w3 hown3 hg3 hat3; obtain ⟨hr3, hoo3, hrecs3, hbw3⟩ := readStep hr2 hoo2 hor2 hrecs2 hbw2 hg3 hat3; have hs3 := hr3.lt; obtain ⟨c0, c1, c2, c3, c4, c5, f4, f5⟩ := hr3.cells; have hoo4 := ownsRow_setCell_below hoo3 (a := ⟨G, 5, none⟩) (by simp) (.bool true); obtain ⟨A3, cap3, rfl, hA3⟩ := own_form hown3)
          go_roundw
          case rel =>
            have hrec4 : Recs (w3.setCell ⟨G, 5, none⟩ (.bool true)) (G + 1) (fun g => u8.ownBlock = some g ∨ (Value.slice A3 (now.length + x.length) cap3).ownBlock = some g) vals acc :=
              hrecs3.grown (grown_set (World.grownBy.refl w3 (some G))) (fun g e hb => by injection e with e; omega) (fun g _ _ h => h)
            have hor4 := ownsRow_setCell_below hown3 (a := ⟨G, 5, none⟩) (by simp) (.bool true)
            exact ⟨pos', f - 1, place, true, now ++ x, acc, vals, rfl, Blk.set hr3 5 _, hbw3.setCell (p := ⟨G, 5, none⟩) (Nat.le_refl _) _, hp2, hoo4, by simpa using hor4, hrec4, by simp; omega, by omega, hpl, by omega, hres⟩
          case measure => rw [hpw.out, posIn_of (Blk.set hr3 5 (.bool true) : RdrIs _ G _ log rec pos' true)]; omega
        · go_wp2_with (at_builtin; refine wpList_append_rd _ rfl (.tmp 53) (.tmp 54) _ rfl (G + 1) 5 i0 _ 1 1 Try.underlying22 hi0 hz0 hz1 hz2 rfl (by decide) _ _ _ rfl hor2 G A' x.length c' (x.map eB) rfl (by simp) hx3 (eB_one x) (by unfold maxLen; omega) (by omega) (by omega) ?_; intro v3 w3 hown3 hg3 hat3; obtain ⟨hr3, hoo3, hrecs3, hbw3⟩ := readStep hr2 hoo2 hor2 hrecs2 hbw2 hg3 hat3; have hs3 := hr3.lt; obtain ⟨c0, c1, c2, c3, c4, c5, f4, f5⟩ := hr3.cells; have hoo4 := ownsRow_setCell_below hoo3 (a := ⟨G, 5, none⟩) (by simp) (.bool true); obtain ⟨A3, cap3, rfl, hA3⟩ := own_form hown3)
          go_roundw
          case rel =>
            have hrec4 : Recs (w3.setCell ⟨G, 5, none⟩ (.bool true)) (G + 1) (fun g => u8.ownBlock = some g ∨ (Value.slice A3 (now.length + x.length) cap3).ownBlock = some g) vals acc :=
              hrecs3.grown (grown_set (World.grownBy.refl w3 (some G))) (fun g e hb => by injection e with e; omega) (fun g _ _ h => h)
            have hor4 := ownsRow_setCell_below hown3 (a := ⟨G, 5, none⟩) (by simp) (.bool true)
            exact ⟨pos', f - 1, place, true, now ++ x, acc, vals, rfl, Blk.set hr3 5 _, hbw3.setCell (p := ⟨G, 5, none⟩) (Nat.le_refl _) _, hp2, hoo4, by simpa using hor4, hrec4, by simp; omega, by omega, hpl, by omega, hres⟩
          case measure => rw [hpw.out, posIn_of (Blk.set hr3 5 (.bool true) : RdrIs _ G _ log rec pos' true)]; omega
      · have hres := hide (hend.out t x rfl (by omega))
        rw [hpH.out] at hres
        clear hmid hend
        rcases ht with rfl | rfl
        · go_wp2_with (first
            | (at_builtin; refine wpList_append_rd _ rfl (.tmp 53) (.tmp 54) _ rfl (G + 1) 5 i0 _ 1 1 Try.underlying22 hi0 hz0 hz1 hz2 rfl (by decide) _ _ _ rfl hor2 G A' x.length c' (x.map eB) rfl (by simp) hx3 (eB_one x) (by unfold maxLen; omega) (by omega) (by omega) ?_; intro v3 w3 hown3 hg3 hat3; obtain ⟨hr3, hoo3, hrecs3, hbw3⟩ := readStep hr2 hoo2 hor2 hrecs2 hbw2 hg3 hat3; have hs3 := hr3.lt; obtain ⟨c0, c1, c2, c3, c4, c5, f4, f5⟩ := hr3.cells; have hoo4 := ownsRow_setCell_below hoo3 (a := ⟨G, 5, none⟩) (by simp) (.bool false); obtain ⟨A3, cap3, rfl, hA3⟩ := own_form hown3)
            | (at_builtin; (refine wpList_append_own_at _ rfl (.tmp 70) (.tmp 72) _ rfl (G + 1) 22 j0 _ 1 24 Try.underlying24 hj0 hy0 hy1 hy2 rfl (by decide) _ _ _ rfl (hoo4.alloc _) _ 1 1 [.slice A3 (now.length + x.length) cap3] rfl rfl (cell_one_at _ _ _ _ (by simp)) (by simp [Value.oneCell']) (by unfold maxLen; omega) (by omega) (by simp; omega) ?_; intro v5 w5 hown5 hg5 _ hat5; obtain ⟨hr5, hrecs5, hbw5⟩ := readOut hr3 hoo3 (by rw [List.map_append]; exact hown3) hrecs3 hbw3 (by unfold maxB; omega) hown5 hg5 hat5; obtain ⟨d0, d1, d2, d3, d4, d5, g4, g5⟩ := hr5.cells)))
          go_quiet (fail)
          go_roundw
          case rel =>
            repeat apply Exists.intro
            exact ⟨⟨pos', f - 1, pos', false, [], acc ++ [now ++ x], _, rfl, hr5.drewN _, below_drewN hbw5 _, hp2, own_drewN (by simpa using hown5) _, World.ownsRow_nil _ _ _ _, hrecs5.drewN _, by simp, by simp; omega, hp2, by omega, hres⟩, rfl⟩
          case measure => rw [hpw.out, posIn_of (hr5.drewN _)]; omega
        · go_wp2_with (first
            | (at_builtin; refine wpList_append_rd _ rfl (.tmp 53) (.tmp 54) _ rfl (G + 1) 5 i0 _ 1 1 Try.underlying22 hi0 hz0 hz1 hz2 rfl (by decide) _ _ _ rfl hor2 G A' x.length c' (x.map eB) rfl (by simp) hx3 (eB_one x) (by unfold maxLen; omega) (by omega) (by omega) ?_; intro v3 w3 hown3 hg3 hat3; obtain ⟨hr3, hoo3, hrecs3, hbw3⟩ := readStep hr2 hoo2 hor2 hrecs2 hbw2 hg3 hat3; have hs3 := hr3.lt; obtain ⟨c0, c1, c2, c3, c4, c5, f4, f5⟩ := hr3.cells; have hoo4 := ownsRow_setCell_below hoo3 (a := ⟨G, 5, none⟩) (by simp) (.bool false); obtain ⟨A3, cap3, rfl, hA3⟩ := own_form hown3)
            | (at_builtin; (refine wpList_append_own_at _ rfl (.tmp 70) (.tmp 72) _ rfl (G + 1) 22 j0 _ 1 24 Try.underlying24 hj0 hy0 hy1 hy2 rfl (by decide) _ _ _ rfl (hoo4.alloc _) _ 1 1 [.slice A3 (now.length + x.length) cap3] rfl rfl (cell_one_at _ _ _ _ (by simp)) (by simp [Value.oneCell']) (by unfold maxLen; omega) (by omega) (by simp; omega) ?_; intro v5 w5 hown5 hg5 _ hat5; obtain ⟨hr5, hrecs5, hbw5⟩ := readOut hr3 hoo3 (by rw [List.map_append]; exact hown3) hrecs3 hbw3 (by unfold maxB; omega) hown5 hg5 hat5; obtain ⟨d0, d1, d2, d3, d4, d5, g4, g5⟩ := hr5.cells)))
          go_quiet (fail)
          go_roundw
          case rel =>
            repeat apply Exists.intro
            exact ⟨⟨pos', f - 1, pos', false, [], acc ++ [now ++ x], _, rfl, hr5.drewN _, below_drewN hbw5 _, hp2, own_drewN (by simpa using hown5) _, World.ownsRow_nil _ _ _ _, hrecs5.drewN _, by simp, by simp; omega, hp2, by omega, hres⟩, rfl⟩
          case measure => rw [hpw.out, posIn_of (hr5.drewN _)]; omega

set_option maxRecDepth 100000 in
set_option maxHeartbeats 4000000 in
theorem read_3 (log n c : Nat) (A : Option Addr) (xs : List UInt8) (w : World) (h : Bsl w w.heap.size A n c xs) (hn : n ≤ 1073741824) (h7 : 7 ≤ n) (k4 : ¬ 4 < (xs.getD 6 0).toNat) :
    Calls Try.prog 9 #[.slice A n c, .int .u32 (log : Nat)] w fun e w' => ∃ v, e = .returned (.tuple #[v, .int .i64 ((readAll xs log).2.1 : Nat), .int .i64 ((readAll xs log).2.2 : Nat)]) ∧ RecsV w' v (readAll xs log).1 ∧ Below w.heap.size w w' := by
  have hlen := h.len
  have hcap := h.cap
  have hbig := h.big
  unfold maxLen at hbig
  have hrec : Hid (recOf xs = (decide (7 ≤ xs.length) && (decide (4 < (xs.getD 6 0).toNat) && decide ((xs.getD 6 0).toNat ≤ 8)))) := rfl
  rw [hlen] at hrec
  obtain ⟨i0, hi0, hz0, hz1, hz2⟩ := info_parts info_byte
  obtain ⟨j0, hj0, hy0, hy1, hy2⟩ := info_parts info_bytes
  have tbig : decide ((1073741824 : Int) < (n : Int)) = false := by simp; omega
  obtain ⟨g, o, rfl, hg, hcell⟩ := h.at_ (k := 6) (by omega)
  have hx := (xs.getD 6 0).toNat_lt
  generalize (xs.getD 6 0).toNat = k at *
  have t7 : decide ((7 : Int) ≤ (n : Int)) = true := by simp; omega
  have t4 : decide ((4 : Int) < (k : Int)) = false := by simp; omega
  go_enter Try.func9, Try.ntmps9
  go_wp2
  have hrecv : recOf xs = false := by rw [hrec.out]; simp; omega
  have hr0 : RdrIs (w.alloc (Obj.cells #[Value.slice (some ⟨g, o, none⟩) n c, Value.int IntKind.u32 (log : Nat), Value.bool false, Value.int IntKind.i64 7, Value.int IntKind.i64 0, Value.bool false] 87)) w.heap.size (.slice (some ⟨g, o, none⟩) n c) log (recOf xs) 0 false := by
    rw [hrecv]; exact Blk.new _ _ _
  have hb0 : Below w.heap.size w (w.alloc (Obj.cells #[Value.slice (some ⟨g, o, none⟩) n c, Value.int IntKind.u32 (log : Nat), Value.bool false, Value.int IntKind.i64 7, Value.int IntKind.i64 0, Value.bool false] 87)) := (Below.refl _ _).alloc (Nat.le_refl _) _
  have hRES : Hid (readP xs log (recOf xs) (n + 1) 0 false [] [] 0 = readAll xs log) := by unfold Hid readAll; rw [hlen]
  clear hrec hrecv
  generalize w.alloc (Obj.cells #[Value.slice (some ⟨g, o, none⟩) n c, Value.int IntKind.u32 (log : Nat), Value.bool false, Value.int IntKind.i64 7, Value.int IntKind.i64 0, Value.bool false] 87) = W0 at *
  generalize recOf xs = rec at *
  have hs0 := hr0.lt
  generalize hG : w.heap.size = G at *
  have hG2 := hide hG
  clear hG
  go_loopw [8, 9, 10] (fun vo vr pl wr => ∃ (pos f place : Nat) (begun : Bool) (now : List UInt8) (acc : List (List UInt8)) (vals : List Value), pl = .int .i64 (place : Nat) ∧ RdrIs wr G (.slice (some ⟨g, o, none⟩) n c) log rec pos begun ∧ Below G w wr ∧ pos ≤ n ∧
      wr.ownsRow (G + 1) 22 1 vo acc.length vals ∧ wr.ownsRow (G + 1) 5 1 vr now.length (now.map eB) ∧ Recs wr (G + 1) (fun g => vo.ownBlock = some g ∨ vr.ownBlock = some g) vals acc ∧
      now.length ≤ pos ∧ acc.length ≤ pos ∧ place ≤ n ∧ n - pos < f ∧ Hid (readP xs log rec f pos begun now acc place = readAll xs log)) (fun _ _ _ wr => n - posIn G wr)
  case atStart => exact ⟨0, n + 1, 0, false, [], [], [], rfl, hr0, hb0, by omega, World.ownsRow_nil _ _ _ _, World.ownsRow_nil _ _ _ _, Recs.nil _ _ _, by simp, by simp, by omega, by omega, hRES⟩
  case round =>
    obtain ⟨pos, f, place, begun, now, acc, vals, rfl, hr, hbw, hpos, hoo, hor, hrecs, hnl, hal, hpl, hf, hH⟩ := hrel
    have hnx := next_w G G log pos n c rec begun (some ⟨g, o, none⟩) xs wr (Nat.le_refl _) hr (h.below hbw) hpos hn
    have hqf := hide (fun t x (hh : nextP xs log rec begun pos = Nx.frag t x) => nextP_frag hh (by omega))
    have hstop := hide (fun how (hh : nextP xs log rec begun pos = Nx.stop how) => (readP_stop (now := now) (acc := acc) (place := place) (f := f) hh (by omega)).symm.trans hH.out)
    have hmid := hide (fun t x (hh : nextP xs log rec begun pos = Nx.frag t x) (ht : t = 2 ∨ t = 3) => (readP_mid (now := now) (acc := acc) (place := place) (f := f) hh (by omega) ht).symm.trans hH.out)
    have hend := hide (fun t x (hh : nextP xs log rec begun pos = Nx.frag t x) (ht : ¬ (t = 2 ∨ t = 3)) => (readP_end (now := now) (acc := acc) (place := place) (f := f) hh (by omega) ht).symm.trans hH.out)
    have hpw := hide (posIn_of hr)
    have hsr := hbw.size
    generalize nextP xs log rec begun pos = q at *
    clear hH
    go_wp2_with fail
    go_at_call 38
    refine hnx.mono ?_
    rintro e w2 ⟨hg, hm⟩
    have hbw2 : Below G w w2 := hbw.trans (below_of_grown hg (Nat.le_refl _) (by have := hr.lt; omega))
    have hoo2 := hoo.kept hg (.inr (fun e => by have := (hoo.lt G e).1; omega))
    have hor2 := hor.kept hg (.inr (fun e => by have := (hor.lt G e).1; omega))
    have hrecs2 : Recs w2 (G + 1) (fun g => u8.ownBlock = some g ∨ u9.ownBlock = some g) vals acc := hrecs.grown hg (fun g e hb => by injection e with e; omega) (fun g _ _ h => h)
    cases q with
    | stop how =>
      obtain rfl := hm
      have t1 : ((how : Int) != (-1)) = true := by rw [bne_iff_ne]; omega
      have hres := hide (hstop.out how rfl)
      clear hstop hmid hend hqf
      go_wp2
      go_ret3
      rw [← hres.out]
      exact ⟨_, rfl, .of_own hoo2 hrecs2, by rw [hG2.out]; exact hbw2⟩
    | frag t x =>
      obtain ⟨A', n', c', rfl, hx1, hr2⟩ := hm
      dsimp only at hr2
      have hq1 := hqf.out t x rfl
      have hlx := hx1.len
      subst hlx
      have hx3 := hx1.rd
      have hs2 := hbw2.size
      have hle2 : G < w2.heap.size := hr2.lt
      clear hqf hstop
      generalize hpos' : baseP xs rec pos + (headOf rec + x.length) = pos' at *
      have hH1 := (headOf_bd rec).1
      have hp1 : pos + 7 + x.length ≤ pos' := by omega
      have hp2 : pos' ≤ n := by omega
      have hpH := hide hpos'
      clear hpos'
      have ht : (t = 2 ∨ t = 3) ∨ (t = 1 ∨ t = 4) := by omega
      rcases ht with ht | ht
      · have hres := hide (hmid.out t x rfl ht)
        rw [hpH.out] at hres
        clear hmid hend
        rcases ht with rfl | rfl
        · go_wp2_with (at_builtin; refine wpList_append_rd _ rfl (.tmp 53) (.tmp 54) _ rfl (G + 1) 5 i0 _ 1 1 Try.underlying22 hi0 hz0 hz1 hz2 rfl (by decide) _ _ _ rfl hor2 G A' x.length c' (x.map eB) rfl (by simp) hx3 (eB_one x) (by unfold maxLen; omega) (by omega) (by omega) ?_; intro v3 w3 hown3 hg3 hat3; obtain ⟨hr3, hoo3, hrecs3, hbw3⟩ := readStep hr2 hoo2 hor2 hrecs2 hbw2 hg3 hat3; have hs3 := hr3.lt; obtain ⟨c0, c1, c2, c3, c4, c5, f4, f5⟩ := hr3.cells; have hoo4 := ownsRow_setCell_below hoo3 (a := ⟨G, 5, none⟩) (by simp) (.bool true); obtain ⟨A3, cap3, rfl, hA3⟩ := own_form hown3)
          go_roundw
          case rel =>
            have hrec4 : Recs (w3.setCell ⟨G, 5, none⟩ (.bool true)) (G + 1) (fun g => u8.ownBlock = some g ∨ (Value.slice A3 (now.length + x.length) cap3).ownBlock = some g) vals acc :=
              hrecs3.grown (grown_set (World.grownBy.refl w3 (some G))) (fun g e hb => by injection e with e; omega) (fun g _ _ h => h)
            have hor4 := ownsRow_setCell_below hown3 (a := ⟨G, 5, none⟩) (by simp) (.bool true)
            exact ⟨pos', f - 1, place, true, now ++ x, acc, vals, rfl, Blk.set hr3 5 _, hbw3.setCell (p := ⟨G, 5, none⟩) (Nat.le_refl _) _, hp2, hoo4, by simpa using hor4, hrec4, by simp; omega, by omega, hpl, by omega, hres⟩
          case measure => rw [hpw.out, posIn_of (Blk.set hr3 5 (.bool true) : RdrIs _ G _ log rec pos' true)]; omega
        · go_wp2_with (at_builtin; refine wpList_append_rd _ rfl (.tmp 53) (.tmp 54) _ rfl (G + 1) 5 i0 _ 1 1 Try.underlying22 hi0 hz0 hz1 hz2 rfl (by decide) _ _ _ rfl hor2 G A' x.length c' (x.map eB) rfl (by simp) hx3 (eB_one x) (by unfold maxLen; omega) (by omega) (by omega) ?_; intro v3 w3 hown3 hg3 hat3; obtain ⟨hr3, hoo3, hrecs3, hbw3⟩ := readStep hr2 hoo2 hor2 hrecs2 hbw2 hg3 hat3; have hs3 := hr3.lt; obtain ⟨c0, c1, c2, c3, c4, c5, f4, f5⟩ := hr3.cells; have hoo4 := ownsRow_setCell_below hoo3 (a := ⟨G, 5, none⟩) (by simp) (.bool true); obtain ⟨A3, cap3, rfl, hA3⟩ := own_form hown3)
          go_roundw
          case rel =>
            have hrec4 : Recs (w3.setCell ⟨G, 5, none⟩ (.bool true)) (G + 1) (fun g => u8.ownBlock = some g ∨ (Value.slice A3 (now.length + x.length) cap3).ownBlock = some g) vals acc :=
              hrecs3.grown (grown_set (World.grownBy.refl w3 (some G))) (fun g e hb => by injection e with e; omega) (fun g _ _ h => h)
            have hor4 := ownsRow_setCell_below hown3 (a := ⟨G, 5, none⟩) (by simp) (.bool true)
            exact ⟨pos', f - 1, place, true, now ++ x, acc, vals, rfl, Blk.set hr3 5 _, hbw3.setCell (p := ⟨G, 5, none⟩) (Nat.le_refl _) _, hp2, hoo4, by simpa using hor4, hrec4, by simp; omega, by omega, hpl, by omega, hres⟩
          case measure => rw [hpw.out, posIn_of (Blk.set hr3 5 (.bool true) : RdrIs _ G _ log rec pos' true)]; omega
      · have hres := hide (hend.out t x rfl (by omega))
        rw [hpH.out] at hres
        clear hmid hend
        rcases ht with rfl | rfl
        · go_wp2_with (first
            | (at_builtin; refine wpList_append_rd _ rfl (.tmp 53) (.tmp 54) _ rfl (G + 1) 5 i0 _ 1 1 Try.underlying22 hi0 hz0 hz1 hz2 rfl (by decide) _ _ _ rfl hor2 G A' x.length c' (x.map eB) rfl (by simp) hx3 (eB_one x) (by unfold maxLen; omega) (by omega) (by omega) ?_; intro v3 w3 hown3 hg3 hat3; obtain ⟨hr3, hoo3, hrecs3, hbw3⟩ := readStep hr2 hoo2 hor2 hrecs2 hbw2 hg3 hat3; have hs3 := hr3.lt; obtain ⟨c0, c1, c2, c3, c4, c5, f4, f5⟩ := hr3.cells; have hoo4 := ownsRow_setCell_below hoo3 (a := ⟨G, 5, none⟩) (by simp) (.bool false); obtain ⟨A3, cap3, rfl, hA3⟩ := own_form hown3)
            | (at_builtin; (refine wpList_append_own_at _ rfl (.tmp 70) (.tmp 72) _ rfl (G + 1) 22 j0 _ 1 24 Try.underlying24 hj0 hy0 hy1 hy2 rfl (by decide) _ _ _ rfl (hoo4.alloc _) _ 1 1 [.slice A3 (now.length + x.length) cap3] rfl rfl (cell_one_at _ _ _ _ (by simp)) (by simp [Value.oneCell']) (by unfold maxLen; omega) (by omega) (by simp; omega) ?_; intro v5 w5 hown5 hg5 _ hat5; obtain ⟨hr5, hrecs5, hbw5⟩ := readOut hr3 hoo3 (by rw [List.map_append]; exact hown3) hrecs3 hbw3 (by unfold maxB; omega) hown5 hg5 hat5; obtain ⟨d0, d1, d2, d3, d4, d5, g4, g5⟩ := hr5.cells)))
          go_quiet (fail)
          go_roundw
          case rel =>
            repeat apply Exists.intro
            exact ⟨⟨pos', f - 1, pos', false, [], acc ++ [now ++ x], _, rfl, hr5.drewN _, below_drewN hbw5 _, hp2, own_drewN (by simpa using hown5) _, World.ownsRow_nil _ _ _ _, hrecs5.drewN _, by simp, by simp; omega, hp2, by omega, hres⟩, rfl⟩
          case measure => rw [hpw.out, posIn_of (hr5.drewN _)]; omega
        · go_wp2_with (first
            | (at_builtin; refine wpList_append_rd _ rfl (.tmp 53) (.tmp 54) _ rfl (G + 1) 5 i0 _ 1 1 Try.underlying22 hi0 hz0 hz1 hz2 rfl (by decide) _ _ _ rfl hor2 G A' x.length c' (x.map eB) rfl (by simp) hx3 (eB_one x) (by unfold maxLen; omega) (by omega) (by omega) ?_; intro v3 w3 hown3 hg3 hat3; obtain ⟨hr3, hoo3, hrecs3, hbw3⟩ := readStep hr2 hoo2 hor2 hrecs2 hbw2 hg3 hat3; have hs3 := hr3.lt; obtain ⟨c0, c1, c2, c3, c4, c5, f4, f5⟩ := hr3.cells; have hoo4 := ownsRow_setCell_below hoo3 (a := ⟨G, 5, none⟩) (by simp) (.bool false); obtain ⟨A3, cap3, rfl, hA3⟩ := own_form hown3)
            | (at_builtin; (refine wpList_append_own_at _ rfl (.tmp 70) (.tmp 72) _ rfl (G + 1) 22 j0 _ 1 24 Try.underlying24 hj0 hy0 hy1 hy2 rfl (by decide) _ _ _ rfl (hoo4.alloc _) _ 1 1 [.slice A3 (now.length + x.length) cap3] rfl rfl (cell_one_at _ _ _ _ (by simp)) (by simp [Value.oneCell']) (by unfold maxLen; omega) (by omega) (by simp; omega) ?_; intro v5 w5 hown5 hg5 _ hat5; obtain ⟨hr5, hrecs5, hbw5⟩ := readOut hr3 hoo3 (by rw [List.map_append]; exact hown3) hrecs3 hbw3 (by unfold maxB; omega) hown5 hg5 hat5; obtain ⟨d0, d1, d2, d3, d4, d5, g4, g5⟩ := hr5.cells)))
          go_quiet (fail)
          go_roundw
          case rel =>
            repeat apply Exists.intro
            exact ⟨⟨pos', f - 1, pos', false, [], acc ++ [now ++ x], _, rfl, hr5.drewN _, below_drewN hbw5 _, hp2, own_drewN (by simpa using hown5) _, World.ownsRow_nil _ _ _ _, hrecs5.drewN _, by simp, by simp; omega, hp2, by omega, hres⟩, rfl⟩
          case measure => rw [hpw.out, posIn_of (hr5.drewN _)]; omega

set_option maxRecDepth 100000 in
set_option maxHeartbeats 4000000 in
theorem read_4 (log n c : Nat) (A : Option Addr) (xs : List UInt8) (w : World) (h : Bsl w w.heap.size A n c xs) (hn : n ≤ 1073741824) (h7 : ¬ 7 ≤ n) :
    Calls Try.prog 9 #[.slice A n c, .int .u32 (log : Nat)] w fun e w' => ∃ v, e = .returned (.tuple #[v, .int .i64 ((readAll xs log).2.1 : Nat), .int .i64 ((readAll xs log).2.2 : Nat)]) ∧ RecsV w' v (readAll xs log).1 ∧ Below w.heap.size w w' := by
  have hlen := h.len
  have hcap := h.cap
  have hbig := h.big
  unfold maxLen at hbig
  have hrec : Hid (recOf xs = (decide (7 ≤ xs.length) && (decide (4 < (xs.getD 6 0).toNat) && decide ((xs.getD 6 0).toNat ≤ 8)))) := rfl
  rw [hlen] at hrec
  obtain ⟨i0, hi0, hz0, hz1, hz2⟩ := info_parts info_byte
  obtain ⟨j0, hj0, hy0, hy1, hy2⟩ := info_parts info_bytes
  have tbig : decide ((1073741824 : Int) < (n : Int)) = false := by simp; omega
  have t7 : decide ((7 : Int) ≤ (n : Int)) = false := by simp; omega
  go_enter Try.func9, Try.ntmps9
  go_wp2
  have hrecv : recOf xs = false := by rw [hrec.out]; simp; omega
  have hr0 : RdrIs (w.alloc (Obj.cells #[Value.slice A n c, Value.int IntKind.u32 (log : Nat), Value.bool false, Value.int IntKind.i64 7, Value.int IntKind.i64 0, Value.bool false] 87)) w.heap.size (.slice A n c) log (recOf xs) 0 false := by
    rw [hrecv]; exact Blk.new _ _ _
  have hb0 : Below w.heap.size w (w.alloc (Obj.cells #[Value.slice A n c, Value.int IntKind.u32 (log : Nat), Value.bool false, Value.int IntKind.i64 7, Value.int IntKind.i64 0, Value.bool false] 87)) := (Below.refl _ _).alloc (Nat.le_refl _) _
  have hRES : Hid (readP xs log (recOf xs) (n + 1) 0 false [] [] 0 = readAll xs log) := by unfold Hid readAll; rw [hlen]
  clear hrec hrecv
  generalize w.alloc (Obj.cells #[Value.slice A n c, Value.int IntKind.u32 (log : Nat), Value.bool false, Value.int IntKind.i64 7, Value.int IntKind.i64 0, Value.bool false] 87) = W0 at *
  generalize recOf xs = rec at *
  have hs0 := hr0.lt
  generalize hG : w.heap.size = G at *
  have hG2 := hide hG
  clear hG
  go_loopw [8, 9, 10] (fun vo vr pl wr => ∃ (pos f place : Nat) (begun : Bool) (now : List UInt8) (acc : List (List UInt8)) (vals : List Value), pl = .int .i64 (place : Nat) ∧ RdrIs wr G (.slice A n c) log rec pos begun ∧ Below G w wr ∧ pos ≤ n ∧
      wr.ownsRow (G + 1) 22 1 vo acc.length vals ∧ wr.ownsRow (G + 1) 5 1 vr now.length (now.map eB) ∧ Recs wr (G + 1) (fun g => vo.ownBlock = some g ∨ vr.ownBlock = some g) vals acc ∧
      now.length ≤ pos ∧ acc.length ≤ pos ∧ place ≤ n ∧ n - pos < f ∧ Hid (readP xs log rec f pos begun now acc place = readAll xs log)) (fun _ _ _ wr => n - posIn G wr)
  case atStart => exact ⟨0, n + 1, 0, false, [], [], [], rfl, hr0, hb0, by omega, World.ownsRow_nil _ _ _ _, World.ownsRow_nil _ _ _ _, Recs.nil _ _ _, by simp, by simp, by omega, by omega, hRES⟩
  case round =>
    obtain ⟨pos, f, place, begun, now, acc, vals, rfl, hr, hbw, hpos, hoo, hor, hrecs, hnl, hal, hpl, hf, hH⟩ := hrel
    have hnx := next_w G G log pos n c rec begun A xs wr (Nat.le_refl _) hr (h.below hbw) hpos hn
    have hqf := hide (fun t x (hh : nextP xs log rec begun pos = Nx.frag t x) => nextP_frag hh (by omega))
    have hstop := hide (fun how (hh : nextP xs log rec begun pos = Nx.stop how) => (readP_stop (now := now) (acc := acc) (place := place) (f := f) hh (by omega)).symm.trans hH.out)
    have hmid := hide (fun t x (hh : nextP xs log rec begun pos = Nx.frag t x) (ht : t = 2 ∨ t = 3) => (readP_mid (now := now) (acc := acc) (place := place) (f := f) hh (by omega) ht).symm.trans hH.out)
    have hend := hide (fun t x (hh : nextP xs log rec begun pos = Nx.frag t x) (ht : ¬ (t = 2 ∨ t = 3)) => (readP_end (now := now) (acc := acc) (place := place) (f := f) hh (by omega) ht).symm.trans hH.out)
    have hpw := hide (posIn_of hr)
    have hsr := hbw.size
    generalize nextP xs log rec begun pos = q at *
    clear hH
    go_wp2_with fail
    go_at_call 38
    refine hnx.mono ?_
    rintro e w2 ⟨hg, hm⟩
    have hbw2 : Below G w w2 := hbw.trans (below_of_grown hg (Nat.le_refl _) (by have := hr.lt; omega))
    have hoo2 := hoo.kept hg (.inr (fun e => by have := (hoo.lt G e).1; omega))
    have hor2 := hor.kept hg (.inr (fun e => by have := (hor.lt G e).1; omega))
    have hrecs2 : Recs w2 (G + 1) (fun g => u8.ownBlock = some g ∨ u9.ownBlock = some g) vals acc := hrecs.grown hg (fun g e hb => by injection e with e; omega) (fun g _ _ h => h)
    cases q with
    | stop how =>
      obtain rfl := hm
      have t1 : ((how : Int) != (-1)) = true := by rw [bne_iff_ne]; omega
      have hres := hide (hstop.out how rfl)
      clear hstop hmid hend hqf
      go_wp2
      go_ret3
      rw [← hres.out]
      exact ⟨_, rfl, .of_own hoo2 hrecs2, by rw [hG2.out]; exact hbw2⟩
    | frag t x =>
      obtain ⟨A', n', c', rfl, hx1, hr2⟩ := hm
      dsimp only at hr2
      have hq1 := hqf.out t x rfl
      have hlx := hx1.len
      subst hlx
      have hx3 := hx1.rd
      have hs2 := hbw2.size
      have hle2 : G < w2.heap.size := hr2.lt
      clear hqf hstop
      generalize hpos' : baseP xs rec pos + (headOf rec + x.length) = pos' at *
      have hH1 := (headOf_bd rec).1
      have hp1 : pos + 7 + x.length ≤ pos' := by omega
      have hp2 : pos' ≤ n := by omega
      have hpH := hide hpos'
      clear hpos'
      exfalso
      omega

theorem read_small (log n c : Nat) (A : Option Addr) (xs : List UInt8) (w : World) (h : Bsl w w.heap.size A n c xs) (hn : n ≤ 1073741824) :
    Calls Try.prog 9 #[.slice A n c, .int .u32 (log : Nat)] w fun e w' => ∃ v, e = .returned (.tuple #[v, .int .i64 ((readAll xs log).2.1 : Nat), .int .i64 ((readAll xs log).2.2 : Nat)]) ∧ RecsV w' v (readAll xs log).1 ∧ Below w.heap.size w w' := by
  by_cases h7 : 7 ≤ n
  · by_cases k4 : 4 < (xs.getD 6 0).toNat
    · by_cases k8 : (xs.getD 6 0).toNat ≤ 8
      · exact read_1 log n c A xs w h hn h7 k4 k8
      · exact read_2 log n c A xs w h hn h7 k4 k8
    · exact read_3 log n c A xs w h hn h7 k4
  · exact read_4 log n c A xs w h hn h7
end Go.Proofs.Ytonhhbebpcaaeaa
