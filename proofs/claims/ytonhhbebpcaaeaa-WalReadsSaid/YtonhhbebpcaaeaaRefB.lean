/- The walk of the reference's Read. -/
import Derived.Test.YtonhhbebpcaaeaaRefA
import Derived.Test.YtonhhbebpcaaeaaWalE
namespace Go.Proofs.Ytonhhbebpcaaeaa
open Go.RowKit

theorem readP_skip {xs : List UInt8} {log : Nat} {rec : Bool} {f pos : Nat} {begun : Bool} {now : List UInt8} {acc : List (List UInt8)} {place : Nat} (h1 : 4096 - pos % 4096 < headOf rec) (h2 : 4096 - pos % 4096 ≤ xs.length - pos) :
    readP xs log rec f pos begun now acc place = readP xs log rec f (pos + (4096 - pos % 4096)) begun now acc place := by
  cases f with
  | zero => rfl
  | succ f =>
    have hh := (headOf_bd rec).2
    have hmod : (pos + (4096 - pos % 4096)) % 4096 = 0 := by omega
    have e1 : nextP xs log rec begun pos = nextP xs log rec begun (pos + (4096 - pos % 4096)) := by
      rw [nextP_eq, if_pos h1, if_pos h2, nextP_eq, if_neg (by omega)]
    have e2 : baseP xs rec pos = baseP xs rec (pos + (4096 - pos % 4096)) := by
      unfold baseP
      rw [if_pos ⟨h1, h2⟩, if_neg (by omega)]
    simp only [readP, e1, e2]
/-- What an append of a record onto the records leaves. -/
theorem recsOut {w4 w5 : World} {G : Nat} {vo v5 : Value} {m c3 : Nat} {A3 : Option Addr} {vals : List Value} {acc : List (List UInt8)} {row : List UInt8}
    (hoo : w4.ownsRow G 22 1 vo acc.length vals) (hor : w4.ownsRow G 5 1 (.slice A3 m c3) m (row.map eB)) (hrecs : Recs w4 G (fun g => vo.ownBlock = some g ∨ (Value.slice A3 m c3).ownBlock = some g) vals acc) (hm : m ≤ maxB)
    (hown5 : w5.ownsRow G 22 1 v5 (acc.length + 1) (vals ++ [Value.slice A3 m c3])) (hg : w4.grownBy w5 vo.ownBlock) (hat : v5.ownBlock = vo.ownBlock ∨ v5.ownBlock = some w4.heap.size) :
    Recs w5 G (fun g => v5.ownBlock = some g) (vals ++ [Value.slice A3 m c3]) (acc ++ [row]) := by
  have hor5 : w5.ownsRow G 5 1 (.slice A3 m c3) m (row.map eB) := hor.kept hg (by
    rcases own_ne hor hoo (by decide) with h | h
    · exact .inl h
    · exact .inr h)
  have hbsl := Bsl.of_own hor5 hm
  refine Recs.snoc (hrecs.grown hg (fun g e _ => .inl e) (fun g hb hlt hc => ?_)) hbsl (fun g o e => ?_)
  · rcases hat with h | h
    · exact .inl (by rw [← h]; exact hc)
    · rw [h] at hc; injection hc with hc; omega
  · have hlt5 := hor5.lt g (by rw [e]; rfl)
    refine ⟨hlt5.1, hlt5.2, fun hc => ?_⟩
    rcases own_ne hor5 hown5 (by decide) with h | h
    · rw [e] at h; simp [Value.ownBlock] at h
    · exact h (by rw [hc, e]; rfl)
theorem own_below {w w' : World} {b : Nat} {e : TypeId} {s : Nat} {v : Value} {n : Nat} {xs : List Value} (h : w.ownsRow b e s v n xs) (hb : Below w.heap.size w w') : w'.ownsRow b e s v n xs :=
  h.kept (grown_of_below (row := none) hb) (by cases hv : v.ownBlock <;> simp)
theorem Recs.below {w w' : World} {base : Nat} {nos : Nat → Prop} {vals : List Value} {acc : List (List UInt8)} (h : Recs w base nos vals acc) (hb : Below w.heap.size w w') : Recs w' base nos vals acc :=
  h.grown (grown_of_below (row := none) hb) (fun g e => by cases e) (fun g _ _ h => h)
/-- What an append onto the record leaves of all else. -/
theorem refStep {w w2 w3 : World} {G : Nat} {vo vr v3 : Value} {n m : Nat} {vals : List Value} {acc : List (List UInt8)} {rs : List Value}
    (hoo : w2.ownsRow G 22 1 vo n vals) (hor : w2.ownsRow G 5 1 vr m rs) (hrecs : Recs w2 G (fun g => vo.ownBlock = some g ∨ vr.ownBlock = some g) vals acc) (hb : Below G w w2) (hs : G ≤ w2.heap.size)
    (hg : w2.grownBy w3 vr.ownBlock) (hat : v3.ownBlock = vr.ownBlock ∨ v3.ownBlock = some w2.heap.size) :
    w3.ownsRow G 22 1 vo n vals ∧ Recs w3 G (fun g => vo.ownBlock = some g ∨ v3.ownBlock = some g) vals acc ∧ Below G w w3 := by
  refine ⟨hoo.kept hg (own_ne hoo hor (by decide)), hrecs.grown hg (fun g e _ => .inr e) (fun g hb hlt hc => ?_), hb.grown hg hs (fun g e => (hor.lt g e).1)⟩
  rcases hc with hc | hc
  · exact .inl hc
  · rcases hat with h | h
    · exact .inr (by rw [← h]; exact hc)
    · rw [h] at hc; injection hc with hc; omega

set_option maxRecDepth 100000 in
set_option maxHeartbeats 4000000 in
theorem refRead_1 (log n c : Nat) (A : Option Addr) (xs : List UInt8) (w : World) (h : Bsl w w.heap.size A n c xs) (hn : n ≤ 1073741824) (hrec : recOf xs = false) :
    Calls Try.prog 10 #[.slice A n c, .int .u32 (log : Nat)] w fun e w' => ∃ v, e = .returned (.tuple #[v, .int .i64 ((readAll xs log).2.1 : Nat), .int .i64 ((readAll xs log).2.2 : Nat)]) ∧ RecsV w' v (readAll xs log).1 ∧ Below w.heap.size w w' := by
  have hlen := h.len
  have hcap := h.cap
  have hbig := h.big
  unfold maxLen at hbig
  obtain ⟨i0, hi0, hz0, hz1, hz2⟩ := info_parts info_byte
  obtain ⟨j0, hj0, hy0, hy1, hy2⟩ := info_parts info_bytes
  have tbig : decide ((1073741824 : Int) < (n : Int)) = false := by simp; omega
  have hRES : Hid (readP xs log false (n + 1) 0 false [] [] 0 = readAll xs log) := by unfold Hid readAll; rw [hlen, hrec]
  have hR := recycled_w A n c xs w h
  rw [hrec] at hR
  have hrH := hide hrec
  clear hrec
  go_enter Try.func10, Try.ntmps10
  go_wp2_with (first | (go_at_call 39; refine hR.mono ?_; rintro e w2 ⟨rfl, rfl⟩) | (go_at_call 40; refine (refHead_w _ _).mono ?_; rintro e w2 ⟨rfl, rfl⟩))
  have hb0 : Below w2.heap.size w2 ((w2.alloc (Obj.cells #[] 22)).alloc (Obj.cells #[] 5)) := ((Below.refl _ _).alloc (Nat.le_refl _) _).alloc (by simp) _
  have hown0 : ((w2.alloc (Obj.cells #[] 22)).alloc (Obj.cells #[] 5)).ownsRow w2.heap.size 22 1 (.slice (some ⟨w2.heap.size, 0, none⟩) 0 0) 0 [] := (World.ownsRow_made w2 #[] 0 (Nat.le_refl _) (by unfold maxLen; omega) (by simp)).alloc _
  have hown1 : ((w2.alloc (Obj.cells #[] 22)).alloc (Obj.cells #[] 5)).ownsRow w2.heap.size 5 1 (.slice (some ⟨w2.heap.size + 1, 0, none⟩) 0 0) 0 [] := by
    have := World.ownsRow_made (base := w2.heap.size) (e := 5) (size := 1) (w2.alloc (Obj.cells #[] 22)) #[] 0 (by simp) (by unfold maxLen; omega) (by simp)
    simpa using this
  have hsz0 : w2.heap.size + 1 ≤ ((w2.alloc (Obj.cells #[] 22)).alloc (Obj.cells #[] 5)).heap.size := by simp
  generalize (w2.alloc (Obj.cells #[] 22)).alloc (Obj.cells #[] 5) = W0 at *
  have hH := headOf_bd false
  have hHv : Hid (headOf false = 7) := rfl
  generalize hG : w2.heap.size = G at *
  have hG2 := hide hG
  clear hG
  go_loopw [8, 11, 12, 13, 14] (fun vo pp pl bg vr wr => ∃ (pos f place : Nat) (begun : Bool) (now : List UInt8) (acc : List (List UInt8)) (vals : List Value), pp = .int .i64 (pos : Nat) ∧ pl = .int .i64 (place : Nat) ∧ bg = .bool begun ∧ Below G w2 wr ∧ G + 1 ≤ wr.heap.size ∧ pos ≤ n ∧
      wr.ownsRow G 22 1 vo acc.length vals ∧ wr.ownsRow G 5 1 vr now.length (now.map eB) ∧ Recs wr G (fun g => vo.ownBlock = some g ∨ vr.ownBlock = some g) vals acc ∧
      now.length ≤ pos ∧ acc.length ≤ pos ∧ place ≤ n ∧ n - pos < f ∧ Hid (readP xs log false f pos begun now acc place = readAll xs log)) (fun _ pp _ _ _ _ => n - (intOf pp).toNat)
  case atStart => exact ⟨0, n + 1, 0, false, [], [], [], rfl, rfl, rfl, hb0, hsz0, by omega, hown0, hown1, Recs.nil _ _ _, by simp, by simp, by omega, by omega, hRES⟩
  case round =>
    obtain ⟨pos, f, place, begun, now, acc, vals, rfl, rfl, rfl, hbw, hszr, hpos, hoo, hor, hrecs, hnl, hal, hpl, hf, hH⟩ := hrel
    have hsr := hbw.size
    have hh := h.below hbw
    have hends : Hid (∀ how, nextP xs log false begun pos = Nx.stop how → (acc, how, place) = readAll xs log) := fun how hh => (readP_stop (now := now) (acc := acc) (place := place) (f := f) hh (by omega)).symm.trans hH.out
    have hRV := hide (RecsV.of_own hoo hrecs)
    have hcl : ∃ A' c', (∀ w, Bsl w G A n c xs → Bsl w G A' (n - pos) c' (xs.drop pos)) ∧ (if c = pos then A else A.map (·.add pos)) = A' ∧ c - pos = c' := ⟨_, _, fun w hw => hw.drop hpos, rfl, rfl⟩
    by_cases hroom : 4096 - pos % 4096 < 7
    · have t1 : decide ((4096 : Int) - (pos : Int) % 4096 < (headOf false : Nat)) = true := by rw [hHv.out]; simp; omega
      by_cases hk : 4096 - pos % 4096 < n - pos
      · have t2 : decide ((n : Int) - (pos : Int) ≤ 4096 - (pos : Int) % 4096) = false := by simp; omega
        clear hends hRV hcl
        have hskip := hide ((readP_skip (f := f) (begun := begun) (now := now) (acc := acc) (place := place) (log := log) (by rw [hHv.out]; exact hroom) (by omega)).symm.trans hH.out)
        clear hH
        go_wp2
        go_roundw
        case rel => exact ⟨pos + (4096 - pos % 4096), f, place, begun, now, acc, vals, by go_num, rfl, rfl, hbw, hszr, by omega, hoo, hor, hrecs, by omega, by omega, hpl, by omega, hskip⟩
        case measure => simp [intOf]; omega
      · have t2 : decide ((n : Int) - (pos : Int) ≤ 4096 - (pos : Int) % 4096) = true := by simp; omega
        have hnp := hide (nextP_eq xs log false begun pos)
        rw [if_pos (by rw [hHv.out]; exact hroom), hlen] at hnp
        by_cases hc : c = pos
        · -- nothing is left
          have hz0 : zeros (xs.drop pos) = true := by rw [List.drop_of_length_le (by omega)]; rfl
          have hfin := hide (hends.out (endOf begun) (by rw [hnp.out, if_neg (by omega), if_pos hz0]))
          have hno := refNoughts_w A 0 0 [] wr (Bsl.empty _ _ _ _ (by unfold maxLen; omega))
          rw [show zeros [] = true from rfl] at hno
          clear hends hH hnp hcl hz0
          have hnc : n = pos := by omega
          subst hc
          subst hnc
          go_wp2_with (first | (go_at_call 41; refine hno.mono ?_; rintro e w3 ⟨rfl, rfl⟩) | (go_at_call 42; refine (refEnd_w _ _).mono ?_; rintro e w3 ⟨rfl, rfl⟩))
          go_ret3
          rw [← hfin.out]
          exact ⟨_, rfl, hRV.out, by rw [hG2.out]; exact hbw⟩
        · have hd := hh.drop hpos
          rw [if_neg hc] at hd
          have hno := refNoughts_w _ _ _ _ wr (hd.more (by omega))
          by_cases hz : zeros (xs.drop pos) = true
          · rw [hz] at hno
            have hfin := hide (hends.out (endOf begun) (by
              rw [hnp.out]
              by_cases he : 4096 - pos % 4096 ≤ n - pos
              · rw [if_pos he, nextAt_ref, refP_eq, if_pos (by rw [List.drop_of_length_le (by omega)]; rfl)]
              · rw [if_neg he, if_pos hz]))
            clear hends hH hnp hcl
            go_wp2_with (first | (go_at_call 41; refine hno.mono ?_; rintro e w3 ⟨rfl, rfl⟩) | (go_at_call 42; refine (refEnd_w _ _).mono ?_; rintro e w3 ⟨rfl, rfl⟩))
            go_ret3
            rw [← hfin.out]
            exact ⟨_, rfl, hRV.out, by rw [hG2.out]; exact hbw⟩
          · have hz2 : zeros (xs.drop pos) = false := by simpa using hz
            rw [hz2] at hno
            by_cases he : n - pos < 4096 - pos % 4096
            · have t3 : decide ((n : Int) - (pos : Int) < 4096 - (pos : Int) % 4096) = true := by simp; omega
              have hfin := hide (hends.out 1 (by rw [hnp.out, if_neg (by omega), if_neg hz]))
              clear hends hH hnp hcl
              go_wp2_with (go_at_call 41; refine hno.mono ?_; rintro e w3 ⟨rfl, rfl⟩)
              go_ret3
              rw [← hfin.out]
              exact ⟨_, rfl, hRV.out, by rw [hG2.out]; exact hbw⟩
            · have t3 : decide ((n : Int) - (pos : Int) < 4096 - (pos : Int) % 4096) = false := by simp; omega
              clear hends hnp hcl hRV
              have hskip := hide ((readP_skip (f := f) (begun := begun) (now := now) (acc := acc) (place := place) (log := log) (by rw [hHv.out]; exact hroom) (by omega)).symm.trans hH.out)
              clear hH
              go_wp2_with (go_at_call 41; refine hno.mono ?_; rintro e w3 ⟨rfl, rfl⟩)
              go_roundw
              case rel => exact ⟨pos + (4096 - pos % 4096), f, place, begun, now, acc, vals, by go_num, rfl, rfl, hbw, hszr, by omega, hoo, hor, hrecs, by omega, by omega, hpl, by omega, hskip⟩
              case measure => simp [intOf]; omega
    · have t1 : decide ((4096 : Int) - (pos : Int) % 4096 < (headOf false : Nat)) = false := by rw [hHv.out]; simp; omega
      have hnp : Hid (nextP xs log false begun pos = refP (xs.drop pos) (4096 - pos % 4096) log false begun) := by
        unfold Hid
        rw [nextP_eq, if_neg (by rw [hHv.out]; exact hroom), nextAt_ref]
      have hbase : Hid (baseP xs false pos = pos) := by
        unfold Hid baseP
        rw [if_neg (by rw [hHv.out]; omega)]
      have hqf := hide (fun t x (hh : nextP xs log false begun pos = Nx.frag t x) => nextP_frag hh (by omega))
      have hmid := hide (fun t x (hh : nextP xs log false begun pos = Nx.frag t x) (ht : t = 2 ∨ t = 3) => (readP_mid (now := now) (acc := acc) (place := place) (f := f) hh (by omega) ht).symm.trans hH.out)
      have hend := hide (fun t x (hh : nextP xs log false begun pos = Nx.frag t x) (ht : ¬ (t = 2 ∨ t = 3)) => (readP_end (now := now) (acc := acc) (place := place) (f := f) hh (by omega) ht).symm.trans hH.out)
      rw [hbase.out] at hqf hmid hend
      rw [hnp.out] at hends hqf hmid hend
      clear hH hnp hbase
      have hleft : ((4096 - pos % 4096 : Nat) : Int) = 4096 - (pos : Int) % 4096 := by omega
      have hfr : ∃ A' c', (if c = pos then A else A.map (·.add pos)) = A' ∧ c - pos = c' ∧ Calls Try.prog 43 #[.slice A' (n - pos) c', .int .i64 (4096 - (pos : Int) % 4096), .int .i64 (headOf false : Nat), .int .u32 (log : Nat), .bool false, .bool begun, .int .i64 (badOf false : Nat)] wr (RefPost wr G (refP (xs.drop pos) (4096 - pos % 4096) log false begun)) := by
        refine ⟨_, _, rfl, rfl, ?_⟩
        have h1 := refFrag_w G (n - pos) (c - pos) (4096 - pos % 4096) log false begun _ (xs.drop pos) wr (hh.drop hpos) (by omega)
        rw [hleft] at h1
        exact h1
      have hq0 : Hid (n = pos → refP (xs.drop pos) (4096 - pos % 4096) log false begun = Nx.stop (endOf begun)) := fun h => by rw [refP_eq, if_pos (by rw [List.drop_of_length_le (by omega)]; rfl)]
      generalize refP (xs.drop pos) (4096 - pos % 4096) log false begun = q at *
      clear hleft hcl
      obtain ⟨A', c', hA', hc', hfr⟩ := hfr
      simp only [badOf, Bool.false_eq_true, if_false] at hfr
      have hgo : Hid ((c = pos ∧ A' = A ∧ n - pos = 0 ∧ c' = 0) ∨ (c ≠ pos ∧ A' = A.map (·.add pos))) := by
        unfold Hid
        by_cases hc : c = pos
        · exact .inl ⟨hc, by rw [← hA', if_pos hc], by omega, by omega⟩
        · exact .inr ⟨hc, by rw [← hA', if_neg hc]⟩
      clear hA'
      rcases hgo.out with ⟨hc, rfl, h0, rfl⟩ | ⟨hc, rfl⟩
      · rw [h0] at hfr
        obtain rfl : q = Nx.stop (endOf begun) := hq0.out (by omega)
        have hfin := hide (hends.out _ rfl)
        clear hends hqf hmid hend hgo hR hRES hh hown0 hown1 hb0 hsz0 hq0
        subst hc
        have hnc : n = c := by omega
        subst hnc
        go_wp2_with fail
        go_at_call 43
        refine hfr.mono ?_
        rintro e w3 ⟨hb3, hm⟩
        obtain rfl := hm
        have hbw3 : Below G w2 w3 := hbw.trans (hb3.mono (by omega))
        have hoo3 := own_below hoo hb3
        have hrecs3 := hrecs.below hb3
        clear hfr
        cases begun
        · go_wp2
          go_ret3
          rw [← hfin.out]
          exact ⟨_, rfl, RecsV.of_own hoo3 hrecs3, by rw [hG2.out]; exact hbw3⟩
        · go_wp2
          go_ret3
          rw [← hfin.out]
          exact ⟨_, rfl, RecsV.of_own hoo3 hrecs3, by rw [hG2.out]; exact hbw3⟩
      · subst hc'
        go_wp2_with fail
        go_at_call 43
        refine hfr.mono ?_
        rintro e w3 ⟨hb3, hm⟩
        have hbw3 : Below G w2 w3 := hbw.trans (hb3.mono (by omega))
        have hoo3 := own_below hoo hb3
        have hor3 := own_below hor hb3
        have hrecs3 := hrecs.below hb3
        have hs3 := hb3.size
        clear hgo hroom t1 hR hRES hh hown0 hown1 hb0 hsz0
        cases q with
        | stop how =>
          obtain rfl := hm
          have hfin := hide (hends.out how rfl)
          clear hends hqf hmid hend hfr
          by_cases h0 : how = 0
          · subst h0
            have t5 : (((0 : Nat) : Int) != 0) = false := rfl
            go_wp2
            go_ret3
            rw [← hfin.out]
            exact ⟨_, rfl, RecsV.of_own hoo3 hrecs3, by rw [hG2.out]; exact hbw3⟩
          · have t5 : ((how : Int) != 0) = true := by rw [bne_iff_ne]; omega
            go_wp2
            go_ret3
            rw [← hfin.out]
            exact ⟨_, rfl, RecsV.of_own hoo3 hrecs3, by rw [hG2.out]; exact hbw3⟩
        | frag t x =>
          obtain ⟨A', n', c', rfl, hx1⟩ := hm
          have hq1 := hqf.out t x rfl
          have hlx := hx1.len
          subst hlx
          have hx3 := hx1.rd
          clear hqf hends hfr
          have hpc : Hid ((pos : Int) + (headOf false : Nat) + (x.length : Nat) = ((pos + (headOf false + x.length) : Nat) : Int)) := by unfold Hid; omega
          have hp1 : pos + 7 + x.length ≤ pos + (headOf false + x.length) := by omega
          have hp2 : pos + (headOf false + x.length) ≤ n := by omega
          have hmid2 := hide (hmid.out t x rfl)
          have hend2 := hide (hend.out t x rfl)
          clear hmid hend
          generalize hpos' : pos + (headOf false + x.length) = pos' at *
          have hpH := hide hpos'
          clear hpos'
          have ht : (t = 2 ∨ t = 3) ∨ (t = 1 ∨ t = 4) := by omega
          rcases ht with ht | ht
          · have hres := hide (hmid2.out ht)
            clear hmid2 hend2
            rcases ht with rfl | rfl
            · go_wp2_with (at_builtin; refine wpList_append_rd _ rfl (.tmp 89) (.tmp 90) _ rfl G 5 i0 _ 1 1 Try.underlying22 hi0 hz0 hz1 hz2 rfl (by decide) _ _ _ rfl hor3 G A' x.length c' (x.map eB) rfl (by simp) hx3 (eB_one x) (by unfold maxLen; omega) (by omega) (by omega) ?_; intro v4 w4 hown4 hg4 hat4; obtain ⟨hoo4, hrecs4, hbw4⟩ := refStep hoo3 hor3 hrecs3 hbw3 (by omega) hg4 hat4; obtain ⟨A3, cap3, rfl, hA3⟩ := own_form hown4; have hs4 := hg4.size)
              go_roundw
              case rel => exact ⟨pos', f - 1, place, true, now ++ x, acc, vals, by rw [hpc.out], rfl, rfl, hbw4, by omega, hp2, hoo4, by simpa using hown4, hrecs4, by simp; omega, by omega, hpl, by omega, hres⟩
              case measure => simp only [intOf, hpc.out, Int.toNat_natCast]; omega
            · go_wp2_with (at_builtin; refine wpList_append_rd _ rfl (.tmp 89) (.tmp 90) _ rfl G 5 i0 _ 1 1 Try.underlying22 hi0 hz0 hz1 hz2 rfl (by decide) _ _ _ rfl hor3 G A' x.length c' (x.map eB) rfl (by simp) hx3 (eB_one x) (by unfold maxLen; omega) (by omega) (by omega) ?_; intro v4 w4 hown4 hg4 hat4; obtain ⟨hoo4, hrecs4, hbw4⟩ := refStep hoo3 hor3 hrecs3 hbw3 (by omega) hg4 hat4; obtain ⟨A3, cap3, rfl, hA3⟩ := own_form hown4; have hs4 := hg4.size)
              go_roundw
              case rel => exact ⟨pos', f - 1, place, true, now ++ x, acc, vals, by rw [hpc.out], rfl, rfl, hbw4, by omega, hp2, hoo4, by simpa using hown4, hrecs4, by simp; omega, by omega, hpl, by omega, hres⟩
              case measure => simp only [intOf, hpc.out, Int.toNat_natCast]; omega
          · have hres := hide (hend2.out (by omega))
            clear hmid2 hend2
            rcases ht with rfl | rfl
            · go_wp2_with (first
                | (at_builtin; refine wpList_append_rd _ rfl (.tmp 89) (.tmp 90) _ rfl G 5 i0 _ 1 1 Try.underlying22 hi0 hz0 hz1 hz2 rfl (by decide) _ _ _ rfl hor3 G A' x.length c' (x.map eB) rfl (by simp) hx3 (eB_one x) (by unfold maxLen; omega) (by omega) (by omega) ?_; intro v4 w4 hown4 hg4 hat4; obtain ⟨hoo4, hrecs4, hbw4⟩ := refStep hoo3 hor3 hrecs3 hbw3 (by omega) hg4 hat4; obtain ⟨A3, cap3, rfl, hA3⟩ := own_form hown4; have hs4 := hg4.size)
                | (at_builtin; (refine wpList_append_own_at _ rfl (.tmp 100) (.tmp 102) _ rfl G 22 j0 _ 1 24 Try.underlying24 hj0 hy0 hy1 hy2 rfl (by decide) _ _ _ rfl (hoo4.alloc _) _ 1 1 [.slice A3 (now.length + x.length) cap3] rfl rfl (cell_one_at _ _ _ _ (by simp)) (by simp [Value.oneCell']) (by unfold maxLen; omega) (by omega) (by simp; omega) ?_; intro v5 w5 hown5 hg5 _ hat5)))
              have hrecs5 := recsOut (hoo4.alloc _) ((by rw [List.map_append]; exact hown4 : w4.ownsRow G 5 1 (.slice A3 (now.length + x.length) cap3) (now.length + x.length) ((now ++ x).map eB)).alloc _) (hrecs4.grown (World.grownBy_alloc w4 _ none) (fun g e => by cases e) (fun g _ _ h => h)) (by unfold maxB; omega) hown5 hg5 hat5
              have hbw5 := below_app hbw4 hoo4 (by omega) hg5 rfl
              have hs5 := hg5.size
              rw [World.size_alloc] at hs5
              have hnew := World.ownsRow_made (base := G) (e := 5) (size := 1) w5 #[] 0 (by omega) (by unfold maxLen; omega) (by simp)
              go_roundw
              case rel =>
                have hrel : ∃ (pos f place : Nat) (begun : Bool) (now : List UInt8) (acc : List (List UInt8)) (vals : List Value), Value.int .i64 (pos' : Nat) = .int .i64 (pos : Nat) ∧ Value.int .i64 (pos' : Nat) = .int .i64 (place : Nat) ∧ Value.bool false = .bool begun ∧ Below G w2 (w5.alloc (.cells #[] 5)) ∧ G + 1 ≤ (w5.alloc (.cells #[] 5)).heap.size ∧ pos ≤ n ∧
          (w5.alloc (.cells #[] 5)).ownsRow G 22 1 v5 acc.length vals ∧ (w5.alloc (.cells #[] 5)).ownsRow G 5 1 (.slice (some ⟨w5.heap.size, 0, none⟩) 0 0) now.length (now.map eB) ∧ Recs (w5.alloc (.cells #[] 5)) G (fun g => v5.ownBlock = some g ∨ (Value.slice (some ⟨w5.heap.size, 0, none⟩) 0 0).ownBlock = some g) vals acc ∧
          now.length ≤ pos ∧ acc.length ≤ pos ∧ place ≤ n ∧ n - pos < f ∧ Hid (readP xs log false f pos begun now acc place = readAll xs log) := by
                  refine ⟨pos', f - 1, pos', false, [], acc ++ [now ++ x], _, rfl, rfl, rfl, hbw5.alloc (by omega) _, by simp; omega, hp2, (by simpa using hown5.alloc _), hnew, hrecs5.grown (World.grownBy_alloc w5 _ none) (fun g e => by cases e) (fun g _ hlt hc => ?_), by simp, by simp; omega, hp2, by omega, hres⟩
                  rcases hc with hc | hc
                  · exact hc
                  · simp only [Value.ownBlock, Option.some.injEq] at hc; omega
                rw [hpc.out]
                exact hrel
              case measure => simp only [intOf, hpc.out, Int.toNat_natCast]; omega
            · go_wp2_with (first
                | (at_builtin; refine wpList_append_rd _ rfl (.tmp 89) (.tmp 90) _ rfl G 5 i0 _ 1 1 Try.underlying22 hi0 hz0 hz1 hz2 rfl (by decide) _ _ _ rfl hor3 G A' x.length c' (x.map eB) rfl (by simp) hx3 (eB_one x) (by unfold maxLen; omega) (by omega) (by omega) ?_; intro v4 w4 hown4 hg4 hat4; obtain ⟨hoo4, hrecs4, hbw4⟩ := refStep hoo3 hor3 hrecs3 hbw3 (by omega) hg4 hat4; obtain ⟨A3, cap3, rfl, hA3⟩ := own_form hown4; have hs4 := hg4.size)
                | (at_builtin; (refine wpList_append_own_at _ rfl (.tmp 100) (.tmp 102) _ rfl G 22 j0 _ 1 24 Try.underlying24 hj0 hy0 hy1 hy2 rfl (by decide) _ _ _ rfl (hoo4.alloc _) _ 1 1 [.slice A3 (now.length + x.length) cap3] rfl rfl (cell_one_at _ _ _ _ (by simp)) (by simp [Value.oneCell']) (by unfold maxLen; omega) (by omega) (by simp; omega) ?_; intro v5 w5 hown5 hg5 _ hat5)))
              have hrecs5 := recsOut (hoo4.alloc _) ((by rw [List.map_append]; exact hown4 : w4.ownsRow G 5 1 (.slice A3 (now.length + x.length) cap3) (now.length + x.length) ((now ++ x).map eB)).alloc _) (hrecs4.grown (World.grownBy_alloc w4 _ none) (fun g e => by cases e) (fun g _ _ h => h)) (by unfold maxB; omega) hown5 hg5 hat5
              have hbw5 := below_app hbw4 hoo4 (by omega) hg5 rfl
              have hs5 := hg5.size
              rw [World.size_alloc] at hs5
              have hnew := World.ownsRow_made (base := G) (e := 5) (size := 1) w5 #[] 0 (by omega) (by unfold maxLen; omega) (by simp)
              go_roundw
              case rel =>
                have hrel : ∃ (pos f place : Nat) (begun : Bool) (now : List UInt8) (acc : List (List UInt8)) (vals : List Value), Value.int .i64 (pos' : Nat) = .int .i64 (pos : Nat) ∧ Value.int .i64 (pos' : Nat) = .int .i64 (place : Nat) ∧ Value.bool false = .bool begun ∧ Below G w2 (w5.alloc (.cells #[] 5)) ∧ G + 1 ≤ (w5.alloc (.cells #[] 5)).heap.size ∧ pos ≤ n ∧
          (w5.alloc (.cells #[] 5)).ownsRow G 22 1 v5 acc.length vals ∧ (w5.alloc (.cells #[] 5)).ownsRow G 5 1 (.slice (some ⟨w5.heap.size, 0, none⟩) 0 0) now.length (now.map eB) ∧ Recs (w5.alloc (.cells #[] 5)) G (fun g => v5.ownBlock = some g ∨ (Value.slice (some ⟨w5.heap.size, 0, none⟩) 0 0).ownBlock = some g) vals acc ∧
          now.length ≤ pos ∧ acc.length ≤ pos ∧ place ≤ n ∧ n - pos < f ∧ Hid (readP xs log false f pos begun now acc place = readAll xs log) := by
                  refine ⟨pos', f - 1, pos', false, [], acc ++ [now ++ x], _, rfl, rfl, rfl, hbw5.alloc (by omega) _, by simp; omega, hp2, (by simpa using hown5.alloc _), hnew, hrecs5.grown (World.grownBy_alloc w5 _ none) (fun g e => by cases e) (fun g _ hlt hc => ?_), by simp, by simp; omega, hp2, by omega, hres⟩
                  rcases hc with hc | hc
                  · exact hc
                  · simp only [Value.ownBlock, Option.some.injEq] at hc; omega
                rw [hpc.out]
                exact hrel
              case measure => simp only [intOf, hpc.out, Int.toNat_natCast]; omega

set_option maxRecDepth 100000 in
set_option maxHeartbeats 4000000 in
theorem refRead_2 (log n c : Nat) (A : Option Addr) (xs : List UInt8) (w : World) (h : Bsl w w.heap.size A n c xs) (hn : n ≤ 1073741824) (hrec : recOf xs = true) :
    Calls Try.prog 10 #[.slice A n c, .int .u32 (log : Nat)] w fun e w' => ∃ v, e = .returned (.tuple #[v, .int .i64 ((readAll xs log).2.1 : Nat), .int .i64 ((readAll xs log).2.2 : Nat)]) ∧ RecsV w' v (readAll xs log).1 ∧ Below w.heap.size w w' := by
  have hlen := h.len
  have hcap := h.cap
  have hbig := h.big
  unfold maxLen at hbig
  obtain ⟨i0, hi0, hz0, hz1, hz2⟩ := info_parts info_byte
  obtain ⟨j0, hj0, hy0, hy1, hy2⟩ := info_parts info_bytes
  have tbig : decide ((1073741824 : Int) < (n : Int)) = false := by simp; omega
  have hRES : Hid (readP xs log true (n + 1) 0 false [] [] 0 = readAll xs log) := by unfold Hid readAll; rw [hlen, hrec]
  have hR := recycled_w A n c xs w h
  rw [hrec] at hR
  have hrH := hide hrec
  clear hrec
  go_enter Try.func10, Try.ntmps10
  go_wp2_with (first | (go_at_call 39; refine hR.mono ?_; rintro e w2 ⟨rfl, rfl⟩) | (go_at_call 40; refine (refHead_w _ _).mono ?_; rintro e w2 ⟨rfl, rfl⟩))
  have hb0 : Below w2.heap.size w2 ((w2.alloc (Obj.cells #[] 22)).alloc (Obj.cells #[] 5)) := ((Below.refl _ _).alloc (Nat.le_refl _) _).alloc (by simp) _
  have hown0 : ((w2.alloc (Obj.cells #[] 22)).alloc (Obj.cells #[] 5)).ownsRow w2.heap.size 22 1 (.slice (some ⟨w2.heap.size, 0, none⟩) 0 0) 0 [] := (World.ownsRow_made w2 #[] 0 (Nat.le_refl _) (by unfold maxLen; omega) (by simp)).alloc _
  have hown1 : ((w2.alloc (Obj.cells #[] 22)).alloc (Obj.cells #[] 5)).ownsRow w2.heap.size 5 1 (.slice (some ⟨w2.heap.size + 1, 0, none⟩) 0 0) 0 [] := by
    have := World.ownsRow_made (base := w2.heap.size) (e := 5) (size := 1) (w2.alloc (Obj.cells #[] 22)) #[] 0 (by simp) (by unfold maxLen; omega) (by simp)
    simpa using this
  have hsz0 : w2.heap.size + 1 ≤ ((w2.alloc (Obj.cells #[] 22)).alloc (Obj.cells #[] 5)).heap.size := by simp
  generalize (w2.alloc (Obj.cells #[] 22)).alloc (Obj.cells #[] 5) = W0 at *
  have hH := headOf_bd true
  have hHv : Hid (headOf true = 11) := rfl
  generalize hG : w2.heap.size = G at *
  have hG2 := hide hG
  clear hG
  go_loopw [8, 11, 12, 13, 14] (fun vo pp pl bg vr wr => ∃ (pos f place : Nat) (begun : Bool) (now : List UInt8) (acc : List (List UInt8)) (vals : List Value), pp = .int .i64 (pos : Nat) ∧ pl = .int .i64 (place : Nat) ∧ bg = .bool begun ∧ Below G w2 wr ∧ G + 1 ≤ wr.heap.size ∧ pos ≤ n ∧
      wr.ownsRow G 22 1 vo acc.length vals ∧ wr.ownsRow G 5 1 vr now.length (now.map eB) ∧ Recs wr G (fun g => vo.ownBlock = some g ∨ vr.ownBlock = some g) vals acc ∧
      now.length ≤ pos ∧ acc.length ≤ pos ∧ place ≤ n ∧ n - pos < f ∧ Hid (readP xs log true f pos begun now acc place = readAll xs log)) (fun _ pp _ _ _ _ => n - (intOf pp).toNat)
  case atStart => exact ⟨0, n + 1, 0, false, [], [], [], rfl, rfl, rfl, hb0, hsz0, by omega, hown0, hown1, Recs.nil _ _ _, by simp, by simp, by omega, by omega, hRES⟩
  case round =>
    obtain ⟨pos, f, place, begun, now, acc, vals, rfl, rfl, rfl, hbw, hszr, hpos, hoo, hor, hrecs, hnl, hal, hpl, hf, hH⟩ := hrel
    have hsr := hbw.size
    have hh := h.below hbw
    have hends : Hid (∀ how, nextP xs log true begun pos = Nx.stop how → (acc, how, place) = readAll xs log) := fun how hh => (readP_stop (now := now) (acc := acc) (place := place) (f := f) hh (by omega)).symm.trans hH.out
    have hRV := hide (RecsV.of_own hoo hrecs)
    have hcl : ∃ A' c', (∀ w, Bsl w G A n c xs → Bsl w G A' (n - pos) c' (xs.drop pos)) ∧ (if c = pos then A else A.map (·.add pos)) = A' ∧ c - pos = c' := ⟨_, _, fun w hw => hw.drop hpos, rfl, rfl⟩
    by_cases hroom : 4096 - pos % 4096 < 11
    · have t1 : decide ((4096 : Int) - (pos : Int) % 4096 < (headOf true : Nat)) = true := by rw [hHv.out]; simp; omega
      by_cases hk : 4096 - pos % 4096 < n - pos
      · have t2 : decide ((n : Int) - (pos : Int) ≤ 4096 - (pos : Int) % 4096) = false := by simp; omega
        clear hends hRV hcl
        have hskip := hide ((readP_skip (f := f) (begun := begun) (now := now) (acc := acc) (place := place) (log := log) (by rw [hHv.out]; exact hroom) (by omega)).symm.trans hH.out)
        clear hH
        go_wp2
        go_roundw
        case rel => exact ⟨pos + (4096 - pos % 4096), f, place, begun, now, acc, vals, by go_num, rfl, rfl, hbw, hszr, by omega, hoo, hor, hrecs, by omega, by omega, hpl, by omega, hskip⟩
        case measure => simp [intOf]; omega
      · have t2 : decide ((n : Int) - (pos : Int) ≤ 4096 - (pos : Int) % 4096) = true := by simp; omega
        have hnp := hide (nextP_eq xs log true begun pos)
        rw [if_pos (by rw [hHv.out]; exact hroom), hlen] at hnp
        by_cases hc : c = pos
        · -- nothing is left
          have hz0 : zeros (xs.drop pos) = true := by rw [List.drop_of_length_le (by omega)]; rfl
          have hfin := hide (hends.out (endOf begun) (by rw [hnp.out, if_neg (by omega), if_pos hz0]))
          have hno := refNoughts_w A 0 0 [] wr (Bsl.empty _ _ _ _ (by unfold maxLen; omega))
          rw [show zeros [] = true from rfl] at hno
          clear hends hH hnp hcl hz0
          have hnc : n = pos := by omega
          subst hc
          subst hnc
          go_wp2_with (first | (go_at_call 41; refine hno.mono ?_; rintro e w3 ⟨rfl, rfl⟩) | (go_at_call 42; refine (refEnd_w _ _).mono ?_; rintro e w3 ⟨rfl, rfl⟩))
          go_ret3
          rw [← hfin.out]
          exact ⟨_, rfl, hRV.out, by rw [hG2.out]; exact hbw⟩
        · have hd := hh.drop hpos
          rw [if_neg hc] at hd
          have hno := refNoughts_w _ _ _ _ wr (hd.more (by omega))
          by_cases hz : zeros (xs.drop pos) = true
          · rw [hz] at hno
            have hfin := hide (hends.out (endOf begun) (by
              rw [hnp.out]
              by_cases he : 4096 - pos % 4096 ≤ n - pos
              · rw [if_pos he, nextAt_ref, refP_eq, if_pos (by rw [List.drop_of_length_le (by omega)]; rfl)]
              · rw [if_neg he, if_pos hz]))
            clear hends hH hnp hcl
            go_wp2_with (first | (go_at_call 41; refine hno.mono ?_; rintro e w3 ⟨rfl, rfl⟩) | (go_at_call 42; refine (refEnd_w _ _).mono ?_; rintro e w3 ⟨rfl, rfl⟩))
            go_ret3
            rw [← hfin.out]
            exact ⟨_, rfl, hRV.out, by rw [hG2.out]; exact hbw⟩
          · have hz2 : zeros (xs.drop pos) = false := by simpa using hz
            rw [hz2] at hno
            by_cases he : n - pos < 4096 - pos % 4096
            · have t3 : decide ((n : Int) - (pos : Int) < 4096 - (pos : Int) % 4096) = true := by simp; omega
              have hfin := hide (hends.out 1 (by rw [hnp.out, if_neg (by omega), if_neg hz]))
              clear hends hH hnp hcl
              go_wp2_with (go_at_call 41; refine hno.mono ?_; rintro e w3 ⟨rfl, rfl⟩)
              go_ret3
              rw [← hfin.out]
              exact ⟨_, rfl, hRV.out, by rw [hG2.out]; exact hbw⟩
            · have t3 : decide ((n : Int) - (pos : Int) < 4096 - (pos : Int) % 4096) = false := by simp; omega
              clear hends hnp hcl hRV
              have hskip := hide ((readP_skip (f := f) (begun := begun) (now := now) (acc := acc) (place := place) (log := log) (by rw [hHv.out]; exact hroom) (by omega)).symm.trans hH.out)
              clear hH
              go_wp2_with (go_at_call 41; refine hno.mono ?_; rintro e w3 ⟨rfl, rfl⟩)
              go_roundw
              case rel => exact ⟨pos + (4096 - pos % 4096), f, place, begun, now, acc, vals, by go_num, rfl, rfl, hbw, hszr, by omega, hoo, hor, hrecs, by omega, by omega, hpl, by omega, hskip⟩
              case measure => simp [intOf]; omega
    · have t1 : decide ((4096 : Int) - (pos : Int) % 4096 < (headOf true : Nat)) = false := by rw [hHv.out]; simp; omega
      have hnp : Hid (nextP xs log true begun pos = refP (xs.drop pos) (4096 - pos % 4096) log true begun) := by
        unfold Hid
        rw [nextP_eq, if_neg (by rw [hHv.out]; exact hroom), nextAt_ref]
      have hbase : Hid (baseP xs true pos = pos) := by
        unfold Hid baseP
        rw [if_neg (by rw [hHv.out]; omega)]
      have hqf := hide (fun t x (hh : nextP xs log true begun pos = Nx.frag t x) => nextP_frag hh (by omega))
      have hmid := hide (fun t x (hh : nextP xs log true begun pos = Nx.frag t x) (ht : t = 2 ∨ t = 3) => (readP_mid (now := now) (acc := acc) (place := place) (f := f) hh (by omega) ht).symm.trans hH.out)
      have hend := hide (fun t x (hh : nextP xs log true begun pos = Nx.frag t x) (ht : ¬ (t = 2 ∨ t = 3)) => (readP_end (now := now) (acc := acc) (place := place) (f := f) hh (by omega) ht).symm.trans hH.out)
      rw [hbase.out] at hqf hmid hend
      rw [hnp.out] at hends hqf hmid hend
      clear hH hnp hbase
      have hleft : ((4096 - pos % 4096 : Nat) : Int) = 4096 - (pos : Int) % 4096 := by omega
      have hfr : ∃ A' c', (if c = pos then A else A.map (·.add pos)) = A' ∧ c - pos = c' ∧ Calls Try.prog 43 #[.slice A' (n - pos) c', .int .i64 (4096 - (pos : Int) % 4096), .int .i64 (headOf true : Nat), .int .u32 (log : Nat), .bool true, .bool begun, .int .i64 (badOf true : Nat)] wr (RefPost wr G (refP (xs.drop pos) (4096 - pos % 4096) log true begun)) := by
        refine ⟨_, _, rfl, rfl, ?_⟩
        have h1 := refFrag_w G (n - pos) (c - pos) (4096 - pos % 4096) log true begun _ (xs.drop pos) wr (hh.drop hpos) (by omega)
        rw [hleft] at h1
        exact h1
      have hq0 : Hid (n = pos → refP (xs.drop pos) (4096 - pos % 4096) log true begun = Nx.stop (endOf begun)) := fun h => by rw [refP_eq, if_pos (by rw [List.drop_of_length_le (by omega)]; rfl)]
      generalize refP (xs.drop pos) (4096 - pos % 4096) log true begun = q at *
      clear hleft hcl
      obtain ⟨A', c', hA', hc', hfr⟩ := hfr
      simp only [badOf, if_true] at hfr
      have hgo : Hid ((c = pos ∧ A' = A ∧ n - pos = 0 ∧ c' = 0) ∨ (c ≠ pos ∧ A' = A.map (·.add pos))) := by
        unfold Hid
        by_cases hc : c = pos
        · exact .inl ⟨hc, by rw [← hA', if_pos hc], by omega, by omega⟩
        · exact .inr ⟨hc, by rw [← hA', if_neg hc]⟩
      clear hA'
      rcases hgo.out with ⟨hc, rfl, h0, rfl⟩ | ⟨hc, rfl⟩
      · rw [h0] at hfr
        obtain rfl : q = Nx.stop (endOf begun) := hq0.out (by omega)
        have hfin := hide (hends.out _ rfl)
        clear hends hqf hmid hend hgo hR hRES hh hown0 hown1 hb0 hsz0 hq0
        subst hc
        have hnc : n = c := by omega
        subst hnc
        go_wp2_with fail
        go_at_call 43
        refine hfr.mono ?_
        rintro e w3 ⟨hb3, hm⟩
        obtain rfl := hm
        have hbw3 : Below G w2 w3 := hbw.trans (hb3.mono (by omega))
        have hoo3 := own_below hoo hb3
        have hrecs3 := hrecs.below hb3
        clear hfr
        cases begun
        · go_wp2
          go_ret3
          rw [← hfin.out]
          exact ⟨_, rfl, RecsV.of_own hoo3 hrecs3, by rw [hG2.out]; exact hbw3⟩
        · go_wp2
          go_ret3
          rw [← hfin.out]
          exact ⟨_, rfl, RecsV.of_own hoo3 hrecs3, by rw [hG2.out]; exact hbw3⟩
      · subst hc'
        go_wp2_with fail
        go_at_call 43
        refine hfr.mono ?_
        rintro e w3 ⟨hb3, hm⟩
        have hbw3 : Below G w2 w3 := hbw.trans (hb3.mono (by omega))
        have hoo3 := own_below hoo hb3
        have hor3 := own_below hor hb3
        have hrecs3 := hrecs.below hb3
        have hs3 := hb3.size
        clear hgo hroom t1 hR hRES hh hown0 hown1 hb0 hsz0
        cases q with
        | stop how =>
          obtain rfl := hm
          have hfin := hide (hends.out how rfl)
          clear hends hqf hmid hend hfr
          by_cases h0 : how = 0
          · subst h0
            have t5 : (((0 : Nat) : Int) != 0) = false := rfl
            go_wp2
            go_ret3
            rw [← hfin.out]
            exact ⟨_, rfl, RecsV.of_own hoo3 hrecs3, by rw [hG2.out]; exact hbw3⟩
          · have t5 : ((how : Int) != 0) = true := by rw [bne_iff_ne]; omega
            go_wp2
            go_ret3
            rw [← hfin.out]
            exact ⟨_, rfl, RecsV.of_own hoo3 hrecs3, by rw [hG2.out]; exact hbw3⟩
        | frag t x =>
          obtain ⟨A', n', c', rfl, hx1⟩ := hm
          have hq1 := hqf.out t x rfl
          have hlx := hx1.len
          subst hlx
          have hx3 := hx1.rd
          clear hqf hends hfr
          have hpc : Hid ((pos : Int) + (headOf true : Nat) + (x.length : Nat) = ((pos + (headOf true + x.length) : Nat) : Int)) := by unfold Hid; omega
          have hp1 : pos + 7 + x.length ≤ pos + (headOf true + x.length) := by omega
          have hp2 : pos + (headOf true + x.length) ≤ n := by omega
          have hmid2 := hide (hmid.out t x rfl)
          have hend2 := hide (hend.out t x rfl)
          clear hmid hend
          generalize hpos' : pos + (headOf true + x.length) = pos' at *
          have hpH := hide hpos'
          clear hpos'
          have ht : (t = 2 ∨ t = 3) ∨ (t = 1 ∨ t = 4) := by omega
          rcases ht with ht | ht
          · have hres := hide (hmid2.out ht)
            clear hmid2 hend2
            rcases ht with rfl | rfl
            · go_wp2_with (at_builtin; refine wpList_append_rd _ rfl (.tmp 89) (.tmp 90) _ rfl G 5 i0 _ 1 1 Try.underlying22 hi0 hz0 hz1 hz2 rfl (by decide) _ _ _ rfl hor3 G A' x.length c' (x.map eB) rfl (by simp) hx3 (eB_one x) (by unfold maxLen; omega) (by omega) (by omega) ?_; intro v4 w4 hown4 hg4 hat4; obtain ⟨hoo4, hrecs4, hbw4⟩ := refStep hoo3 hor3 hrecs3 hbw3 (by omega) hg4 hat4; obtain ⟨A3, cap3, rfl, hA3⟩ := own_form hown4; have hs4 := hg4.size)
              go_roundw
              case rel => exact ⟨pos', f - 1, place, true, now ++ x, acc, vals, by rw [hpc.out], rfl, rfl, hbw4, by omega, hp2, hoo4, by simpa using hown4, hrecs4, by simp; omega, by omega, hpl, by omega, hres⟩
              case measure => simp only [intOf, hpc.out, Int.toNat_natCast]; omega
            · go_wp2_with (at_builtin; refine wpList_append_rd _ rfl (.tmp 89) (.tmp 90) _ rfl G 5 i0 _ 1 1 Try.underlying22 hi0 hz0 hz1 hz2 rfl (by decide) _ _ _ rfl hor3 G A' x.length c' (x.map eB) rfl (by simp) hx3 (eB_one x) (by unfold maxLen; omega) (by omega) (by omega) ?_; intro v4 w4 hown4 hg4 hat4; obtain ⟨hoo4, hrecs4, hbw4⟩ := refStep hoo3 hor3 hrecs3 hbw3 (by omega) hg4 hat4; obtain ⟨A3, cap3, rfl, hA3⟩ := own_form hown4; have hs4 := hg4.size)
              go_roundw
              case rel => exact ⟨pos', f - 1, place, true, now ++ x, acc, vals, by rw [hpc.out], rfl, rfl, hbw4, by omega, hp2, hoo4, by simpa using hown4, hrecs4, by simp; omega, by omega, hpl, by omega, hres⟩
              case measure => simp only [intOf, hpc.out, Int.toNat_natCast]; omega
          · have hres := hide (hend2.out (by omega))
            clear hmid2 hend2
            rcases ht with rfl | rfl
            · go_wp2_with (first
                | (at_builtin; refine wpList_append_rd _ rfl (.tmp 89) (.tmp 90) _ rfl G 5 i0 _ 1 1 Try.underlying22 hi0 hz0 hz1 hz2 rfl (by decide) _ _ _ rfl hor3 G A' x.length c' (x.map eB) rfl (by simp) hx3 (eB_one x) (by unfold maxLen; omega) (by omega) (by omega) ?_; intro v4 w4 hown4 hg4 hat4; obtain ⟨hoo4, hrecs4, hbw4⟩ := refStep hoo3 hor3 hrecs3 hbw3 (by omega) hg4 hat4; obtain ⟨A3, cap3, rfl, hA3⟩ := own_form hown4; have hs4 := hg4.size)
                | (at_builtin; (refine wpList_append_own_at _ rfl (.tmp 100) (.tmp 102) _ rfl G 22 j0 _ 1 24 Try.underlying24 hj0 hy0 hy1 hy2 rfl (by decide) _ _ _ rfl (hoo4.alloc _) _ 1 1 [.slice A3 (now.length + x.length) cap3] rfl rfl (cell_one_at _ _ _ _ (by simp)) (by simp [Value.oneCell']) (by unfold maxLen; omega) (by omega) (by simp; omega) ?_; intro v5 w5 hown5 hg5 _ hat5)))
              have hrecs5 := recsOut (hoo4.alloc _) ((by rw [List.map_append]; exact hown4 : w4.ownsRow G 5 1 (.slice A3 (now.length + x.length) cap3) (now.length + x.length) ((now ++ x).map eB)).alloc _) (hrecs4.grown (World.grownBy_alloc w4 _ none) (fun g e => by cases e) (fun g _ _ h => h)) (by unfold maxB; omega) hown5 hg5 hat5
              have hbw5 := below_app hbw4 hoo4 (by omega) hg5 rfl
              have hs5 := hg5.size
              rw [World.size_alloc] at hs5
              have hnew := World.ownsRow_made (base := G) (e := 5) (size := 1) w5 #[] 0 (by omega) (by unfold maxLen; omega) (by simp)
              go_roundw
              case rel =>
                have hrel : ∃ (pos f place : Nat) (begun : Bool) (now : List UInt8) (acc : List (List UInt8)) (vals : List Value), Value.int .i64 (pos' : Nat) = .int .i64 (pos : Nat) ∧ Value.int .i64 (pos' : Nat) = .int .i64 (place : Nat) ∧ Value.bool false = .bool begun ∧ Below G w2 (w5.alloc (.cells #[] 5)) ∧ G + 1 ≤ (w5.alloc (.cells #[] 5)).heap.size ∧ pos ≤ n ∧
          (w5.alloc (.cells #[] 5)).ownsRow G 22 1 v5 acc.length vals ∧ (w5.alloc (.cells #[] 5)).ownsRow G 5 1 (.slice (some ⟨w5.heap.size, 0, none⟩) 0 0) now.length (now.map eB) ∧ Recs (w5.alloc (.cells #[] 5)) G (fun g => v5.ownBlock = some g ∨ (Value.slice (some ⟨w5.heap.size, 0, none⟩) 0 0).ownBlock = some g) vals acc ∧
          now.length ≤ pos ∧ acc.length ≤ pos ∧ place ≤ n ∧ n - pos < f ∧ Hid (readP xs log true f pos begun now acc place = readAll xs log) := by
                  refine ⟨pos', f - 1, pos', false, [], acc ++ [now ++ x], _, rfl, rfl, rfl, hbw5.alloc (by omega) _, by simp; omega, hp2, (by simpa using hown5.alloc _), hnew, hrecs5.grown (World.grownBy_alloc w5 _ none) (fun g e => by cases e) (fun g _ hlt hc => ?_), by simp, by simp; omega, hp2, by omega, hres⟩
                  rcases hc with hc | hc
                  · exact hc
                  · simp only [Value.ownBlock, Option.some.injEq] at hc; omega
                rw [hpc.out]
                exact hrel
              case measure => simp only [intOf, hpc.out, Int.toNat_natCast]; omega
            · go_wp2_with (first
                | (at_builtin; refine wpList_append_rd _ rfl (.tmp 89) (.tmp 90) _ rfl G 5 i0 _ 1 1 Try.underlying22 hi0 hz0 hz1 hz2 rfl (by decide) _ _ _ rfl hor3 G A' x.length c' (x.map eB) rfl (by simp) hx3 (eB_one x) (by unfold maxLen; omega) (by omega) (by omega) ?_; intro v4 w4 hown4 hg4 hat4; obtain ⟨hoo4, hrecs4, hbw4⟩ := refStep hoo3 hor3 hrecs3 hbw3 (by omega) hg4 hat4; obtain ⟨A3, cap3, rfl, hA3⟩ := own_form hown4; have hs4 := hg4.size)
                | (at_builtin; (refine wpList_append_own_at _ rfl (.tmp 100) (.tmp 102) _ rfl G 22 j0 _ 1 24 Try.underlying24 hj0 hy0 hy1 hy2 rfl (by decide) _ _ _ rfl (hoo4.alloc _) _ 1 1 [.slice A3 (now.length + x.length) cap3] rfl rfl (cell_one_at _ _ _ _ (by simp)) (by simp [Value.oneCell']) (by unfold maxLen; omega) (by omega) (by simp; omega) ?_; intro v5 w5 hown5 hg5 _ hat5)))
              have hrecs5 := recsOut (hoo4.alloc _) ((by rw [List.map_append]; exact hown4 : w4.ownsRow G 5 1 (.slice A3 (now.length + x.length) cap3) (now.length + x.length) ((now ++ x).map eB)).alloc _) (hrecs4.grown (World.grownBy_alloc w4 _ none) (fun g e => by cases e) (fun g _ _ h => h)) (by unfold maxB; omega) hown5 hg5 hat5
              have hbw5 := below_app hbw4 hoo4 (by omega) hg5 rfl
              have hs5 := hg5.size
              rw [World.size_alloc] at hs5
              have hnew := World.ownsRow_made (base := G) (e := 5) (size := 1) w5 #[] 0 (by omega) (by unfold maxLen; omega) (by simp)
              go_roundw
              case rel =>
                have hrel : ∃ (pos f place : Nat) (begun : Bool) (now : List UInt8) (acc : List (List UInt8)) (vals : List Value), Value.int .i64 (pos' : Nat) = .int .i64 (pos : Nat) ∧ Value.int .i64 (pos' : Nat) = .int .i64 (place : Nat) ∧ Value.bool false = .bool begun ∧ Below G w2 (w5.alloc (.cells #[] 5)) ∧ G + 1 ≤ (w5.alloc (.cells #[] 5)).heap.size ∧ pos ≤ n ∧
          (w5.alloc (.cells #[] 5)).ownsRow G 22 1 v5 acc.length vals ∧ (w5.alloc (.cells #[] 5)).ownsRow G 5 1 (.slice (some ⟨w5.heap.size, 0, none⟩) 0 0) now.length (now.map eB) ∧ Recs (w5.alloc (.cells #[] 5)) G (fun g => v5.ownBlock = some g ∨ (Value.slice (some ⟨w5.heap.size, 0, none⟩) 0 0).ownBlock = some g) vals acc ∧
          now.length ≤ pos ∧ acc.length ≤ pos ∧ place ≤ n ∧ n - pos < f ∧ Hid (readP xs log true f pos begun now acc place = readAll xs log) := by
                  refine ⟨pos', f - 1, pos', false, [], acc ++ [now ++ x], _, rfl, rfl, rfl, hbw5.alloc (by omega) _, by simp; omega, hp2, (by simpa using hown5.alloc _), hnew, hrecs5.grown (World.grownBy_alloc w5 _ none) (fun g e => by cases e) (fun g _ hlt hc => ?_), by simp, by simp; omega, hp2, by omega, hres⟩
                  rcases hc with hc | hc
                  · exact hc
                  · simp only [Value.ownBlock, Option.some.injEq] at hc; omega
                rw [hpc.out]
                exact hrel
              case measure => simp only [intOf, hpc.out, Int.toNat_natCast]; omega

theorem refRead_small (log n c : Nat) (A : Option Addr) (xs : List UInt8) (w : World) (h : Bsl w w.heap.size A n c xs) (hn : n ≤ 1073741824) :
    Calls Try.prog 10 #[.slice A n c, .int .u32 (log : Nat)] w fun e w' => ∃ v, e = .returned (.tuple #[v, .int .i64 ((readAll xs log).2.1 : Nat), .int .i64 ((readAll xs log).2.2 : Nat)]) ∧ RecsV w' v (readAll xs log).1 ∧ Below w.heap.size w w' := by
  cases hrec : recOf xs
  · exact refRead_1 log n c A xs w h hn hrec
  · exact refRead_2 log n c A xs w h hn hrec
end Go.Proofs.Ytonhhbebpcaaeaa
