/- batch.Batch: what it is in memory; the walks of all, Add, Put, Records, Size, and of slices.Clone. -/
import Derived.Test.YtonhhbebpcaaeaaLawA
import Derived.Test.YtonhhbebpcaaeaaFr
import Derived.Deep.RegionLaw
namespace Go.Proofs.Ytonhhbebpcaaeaa
open Go.RowKit

def addErr (n sz : Nat) (rs : List Rec) : Nat := if firstBad rs ≠ 0 then firstBad rs else if 4096 < n + rs.length ∨ 4194304 < max sz 12 + sizesOf rs then 2 else 0

set_option maxRecDepth 100000 in
set_option maxHeartbeats 1000000 in
theorem cloneR_w (A : Option Addr) (n c : Nat) (rs : List Rec) (w : World) (h : Rsl w w.heap.size A n c rs) :
    Calls Try.prog 99 #[.slice A n c] w fun e w' => ∃ v, e = .returned v ∧ w'.ownsRow w.heap.size 44 4 v n (rAll rs) ∧ Below w.heap.size w w' := by
  obtain ⟨i0, hi0, hz0, hz1, hz2⟩ := info_parts info_rec'
  have hl := h.len
  have hcap := h.cap
  have hbig := h.big
  have hfew := h.few
  unfold maxLen at hbig
  have ho0 : (w.alloc (.cells #[] 44)).ownsRow w.heap.size 44 4 (.slice (some ⟨w.heap.size, 0, none⟩) 0 0) 0 [] := World.ownsRow_made w #[] 0 (Nat.le_refl _) (by unfold maxLen; omega) (by simp)
  have hb0 : Below w.heap.size w (w.alloc (.cells #[] 44)) := (Below.refl _ _).alloc (Nat.le_refl _) _
  cases A with
  | none =>
    have hrs : rAll rs = [] := by
      rcases h.rd with h1 | ⟨g, o, e, _⟩
      · exact h1
      · cases e
    have hn : n = 0 := by
      have := rAll_len rs
      rw [hrs] at this
      simp at this
      omega
    subst hn
    rw [hrs]
    have he : ∀ w : World, (binOp .eql 39 (.slice none 0 c) (.slice none 0 0)).run Try.prog w = .ok (.bool true) w := fun _ => rfl
    go_enter Try.func99, Try.ntmps99
    go_wp2
    go_ret
    exact ⟨_, rfl, World.ownsRow_nil _ _ _ _, Below.refl _ _⟩
  | some a =>
    have hone : ∀ u ∈ rAll rs, u.oneCell' = true := by
      intro u hu
      unfold rAll at hu
      obtain ⟨r, _, hu⟩ := List.mem_flatMap.1 hu
      unfold rCells at hu
      simp at hu
      rcases hu with rfl | rfl | rfl | rfl <;> rfl
    have hh := h.below hb0
    have hlen := rAll_len rs
    have he : ∀ w : World, (binOp .eql 39 (.slice (some a) n c) (.slice none 0 0)).run Try.prog w = .ok (.bool false) w := fun _ => rfl
    go_enter Try.func99, Try.ntmps99
    go_wp2_with (at_builtin; refine wpList_append_rd _ rfl (.tmp 5) (.tmp 6) _ rfl w.heap.size 44 i0 _ 4 48 Try.underlying39 hi0 hz0 hz1 hz2 rfl (by decide) _ _ _ rfl ho0 w.heap.size (some a) n c (rAll rs) rfl (by omega) hh.rd hone (by unfold maxLen; omega) (by omega) (by simp) ?_; intro v1 w1 hown1 hg1 _)
    rw [Nat.zero_add, List.nil_append] at hown1
    have hb1 := below_app' hb0 ho0 (by simp) hg1 rfl
    go_ret
    exact ⟨_, rfl, hown1, hb1⟩


theorem Rsl.fr {S : Nat → Prop} {w w' : World} {B : Nat} {A : Option Addr} {n c : Nat} {rs : List Rec} (h : Rsl w B A n c rs) (hf : Fr S w w') (hB : B ≤ w.heap.size) (hn : ∀ a, A = some a → ¬ S a.block) : Rsl w' B A n c rs := { h with rd := hf.rd h.rd hB hn }

/-- What all leaves. -/
def AllPost (w : World) (P base : Nat) (A : Option Addr) (n c : Nat) (L : List Rec) (sz : Nat) (m : Value) (rs : List Rec) (e : Ending) (w' : World) : Prop :=
  e = .returned (.int .i64 (addErr n sz rs : Nat)) ∧ (addErr n sz rs ≠ 0 → Below w.heap.size w w') ∧
  (addErr n sz rs = 0 → ∃ A' c', Fr (fun k => k = P ∨ some k = (Value.slice A n c).ownBlock) w w' ∧ Blk w' P 75 #[.slice A' (n + rs.length) c', .int .i64 (max sz 12 + sizesOf rs : Nat), m] ∧
    w'.ownsRow base 44 4 (.slice A' (n + rs.length) c') (n + rs.length) (rAll (L ++ rs.map plainR)) ∧
    ((Value.slice A' (n + rs.length) c').ownBlock = (Value.slice A n c).ownBlock ∨ ∃ g, (Value.slice A' (n + rs.length) c').ownBlock = some g ∧ w.heap.size ≤ g))

set_option maxRecDepth 100000 in
set_option maxHeartbeats 4000000 in
theorem all_w (P base : Nat) (A : Option Addr) (n c : Nat) (L : List Rec) (sz : Nat) (m : Value) (A2 : Option Addr) (n2 c2 : Nat) (rs : List Rec) (w : World)
    (hP : Blk w P 75 #[.slice A n c, .int .i64 sz, m]) (ho : w.ownsRow base 44 4 (.slice A n c) n (rAll L)) (hbase : base ≤ w.heap.size) (hPb : P < base) (hn : n ≤ 4096) (hsz : sz ≤ 4194304)
    (hR : Rsl w w.heap.size A2 n2 c2 rs) (hsep : ∀ a, A2 = some a → ¬ (a.block = P ∨ some a.block = (Value.slice A n c).ownBlock)) :
    Calls Try.prog 114 #[.pointer (some ⟨P, 0, none⟩), .slice A2 n2 c2] w (AllPost w P base A n c L sz m rs) := by
  have hl := hR.len
  have hcap := hR.cap
  have hbig := hR.big
  have hfew := hR.few
  unfold maxLen at hbig
  have p1 := hP.cell 1
  simp only [List.getElem?_toArray, List.getElem?_cons_succ, List.getElem?_cons_zero] at p1
  go_enter Try.func114, Try.ntmps114
  have hpost : Hid (addErr n sz rs = if firstBad rs ≠ 0 then firstBad rs else if 4096 < n + rs.length ∨ 4194304 < max sz 12 + sizesOf rs then 2 else 0) := rfl
  have hs0 : Hid (∃ s0, s0 = max sz 12 ∧ s0 ≤ 4194304) := ⟨max sz 12, rfl, by omega⟩
  go_wp2
  all_goals
    obtain ⟨s0, hs0, hs1⟩ := hs0.out
    have hs2 := hide hs0
    rw [← hs0] at hpost
    go_loopw [5, 7, 8, 18] (fun s _ _ i wr => ∃ (k : Nat), k ≤ n2 ∧ i = .int .i64 k ∧ Below w.heap.size w wr ∧ (∀ r ∈ rs.take k, checkOf r = 0) ∧ s = .int .i64 (s0 + sizesOf (rs.take k) : Nat)) (fun _ _ _ i _ => n2 - (intOf i).toNat)
    case atStart => exact ⟨0, by omega, rfl, Below.refl _ _, by simp, by simp only [List.take_zero, sizesOf, Nat.add_zero]; congr 1; omega⟩
    case round =>
      clear hs0
      obtain ⟨k, hk, rfl, hbw, hck, rfl⟩ := hrel
      have hsw := hbw.size
      by_cases hlt : k < n2
      · obtain ⟨g, o, r, rfl, hg, hr, hok, c0, c1, c2, c3⟩ := (hR.below hbw).at_ hlt
        have hBx := Blk.new wr 44 #[.int .u32 (r.f : Nat), .int .i64 r.kind, .string r.key, .string r.val]
        have hbx : Below w.heap.size w (wr.alloc (.cells #[.int .u32 (r.f : Nat), .int .i64 r.kind, .string r.key, .string r.val] 44)) := hbw.alloc hsw _
        by_cases hc : checkOf r = 0
        · have hchk : ∀ w : World, Calls Try.prog 18 #[vRec r] w fun e w' => e = .returned (.int .i64 0) ∧ Below w.heap.size w w' := fun w => by have := check_w r hok w; rw [hc] at this; exact this
          have hck2 : ∀ x ∈ rs.take (k + 1), checkOf x = 0 := fun x hx => by
            rw [take_snoc hr, List.mem_append] at hx
            rcases hx with hx | hx
            · exact hck x hx
            · simp at hx; subst hx; exact hc
          have hst := hide (sizesOf_take rs k r hr)
          have hle := recB_le r hok hc
          have hle2 := sizesOf_le (rs.take k) (fun r h' => hR.ok r (List.mem_of_mem_take h')) hck
          rw [List.length_take] at hle2
          have hbt := fun w => bytes_w r hok hc w
          generalize recB r = row at *
          generalize sizesOf (rs.take k) = S at *
          go_wp2_with (first
            | (go_at_call 18; refine (hchk _).mono ?_; rintro e w5 ⟨rfl, hb5⟩; have hB5 := Blk.ext hBx hb5; have d0 := hB5.cell 0; have d1 := hB5.cell 1; have d2 := hB5.cell 2; have d3 := hB5.cell 3; simp only [List.getElem?_toArray, List.getElem?_cons_succ, List.getElem?_cons_zero] at d0 d1 d2 d3)
            | (go_at_call 49; refine (hbt _).mono ?_; rintro e w6 ⟨v6, rfl, hown6, hb6⟩; obtain ⟨A6, c6, rfl, _⟩ := own_form hown6))
          have hb7 := (hbx.trans (hb5.mono (by simp; omega))).trans (hb6.mono (by have := hb5.size; simp at *; omega))
          go_roundw
          case rel =>
            exact ⟨k + 1, by omega, by first | rfl | go_num, hb7, hck2, by rw [hst.out]; go_num⟩
          case measure => simp [intOf]; omega
        · have hchk := fun w => check_w r hok w
          have hfb := hide (firstBad_take rs k r hr hc hck)
          have hd2 : ((checkOf r : Int) != 0) = true := by simp; omega
          have hc3 := hide hc
          clear hc hck
          generalize checkOf r = cc at *
          go_wp2_with (go_at_call 18; refine (hchk _).mono ?_; rintro e w5 ⟨rfl, hb5⟩)
          have hb7 := hbx.trans (hb5.mono (by simp; omega))
          go_ret
          have hee : addErr n sz rs = cc := by rw [hpost.out, hfb.out, if_pos hc3.out]
          exact ⟨by rw [hee]; rfl, fun _ => hb7, fun h0 => absurd (hee.symm.trans h0) hc3.out⟩
      · obtain rfl : k = n2 := by omega
        have htk : rs.take k = rs := List.take_of_length_le (by omega)
        rw [htk] at hck ⊢
        have hfb := hide (firstBad_none rs hck)
        have hle2 := sizesOf_le rs hR.ok hck
        have hP1 := hP.ext hbw
        have q0 := hP1.cell 0
        have q1 := hP1.cell 1
        simp only [List.getElem?_toArray, List.getElem?_cons_succ, List.getElem?_cons_zero] at q0 q1
        have hzero : Hid (sizesOf rs = sizesOf rs) := rfl
        have hlR := hide hl
        generalize hS : sizesOf rs = S at *
        by_cases h41 : 4096 < n + k
        · have d41 : decide ((n : Int) + (k : Int) > 4096) = true := by simp; omega
          have hee : addErr n sz rs = 2 := by rw [hpost.out, if_neg (by rw [hfb.out]; simp), if_pos (.inl (by omega))]
          clear hS hpost hfb hck
          go_wp2
          go_ret
          exact ⟨by rw [hee]; rfl, fun _ => hbw, fun h0 => by rw [hee] at h0; cases h0⟩
        · have d41 : decide ((n : Int) + (k : Int) > 4096) = false := by simp; omega
          by_cases h44 : 4194304 < s0 + S
          · have d44 : decide ((s0 : Int) + (S : Int) > 4194304) = true := by simp; omega
            have hee : addErr n sz rs = 2 := by rw [hpost.out, if_neg (by rw [hfb.out]; simp), if_pos (.inr (by omega))]
            clear hS hpost hfb hck
            go_wp2
            go_ret
            exact ⟨by rw [hee]; rfl, fun _ => hbw, fun h0 => by rw [hee] at h0; cases h0⟩
          · have d44 : decide ((s0 : Int) + (S : Int) > 4194304) = false := by simp; omega
            have hee : Hid (addErr n sz rs = 0) := by unfold Hid; rw [hpost.out, if_neg (by rw [hfb.out]; simp), if_neg (by omega)]
            have hS2 := hide hS
            clear hS hpost hfb hck
            go_wp2
            clear q0 q1 p1 d41 d44
            have hfr0 : Fr (fun x => x = P ∨ some x = (Value.slice A n c).ownBlock) w wr := .ext hbw
            have ho1 := own_below' ho hbw
            go_loopw [10, 48] (fun _ i wf => ∃ (j : Nat) (A' : Option Addr) (c' : Nat), j ≤ k ∧ i = .int .i64 j ∧ Fr (fun x => x = P ∨ some x = (Value.slice A n c).ownBlock) w wf ∧ Blk wf P 75 #[.slice A' (n + j) c', .int .i64 sz, m] ∧ wf.ownsRow base 44 4 (.slice A' (n + j) c') (n + j) (rAll (L ++ (rs.take j).map plainR)) ∧ Hid ((Value.slice A' (n + j) c').ownBlock = (Value.slice A n c).ownBlock ∨ ∃ g, (Value.slice A' (n + j) c').ownBlock = some g ∧ w.heap.size ≤ g)) (fun _ i _ => k - (intOf i).toNat)
            case atStart => exact ⟨0, A, c, by omega, rfl, hfr0, hP1, by simpa using ho1, .inl rfl⟩
            case round =>
              obtain ⟨j, A', c', hj, rfl, hfr, hPj, hoj, hob⟩ := hrel
              clear hfr0 ho1 hP1 hbw hsw
              have hsf := hfr.size
              by_cases hlt2 : j < k
              · obtain ⟨g, o, r, rfl, hg, hr, hok, c0, c1, c2, c3⟩ := (hR.fr hfr (Nat.le_refl _) hsep).at_ hlt2
                obtain ⟨i0, hi0, hz0, hz1, hz2⟩ := info_parts info_rec'
                have hpl : ∀ w : World, Calls Try.prog 139 #[vRec r] w fun e w' => e = .returned (.agg #[.int .u32 ((plainR r).f : Nat), .int .i64 (plainR r).kind, .string (plainR r).key, .string (plainR r).val]) ∧ Below w.heap.size w w' := fun w => batPlain_w r w
                have hone : ∀ u ∈ rCells (plainR r), u.oneCell' = true := by simp [rCells, Value.oneCell']
                have hpos : 0 < 4 := by omega
                have hml : n + j + 1 ≤ maxLen := by unfold maxLen; omega
                have hby : (n + j + 1) * 48 ≤ 140737488355328 := by omega
                have hst : Hid (rAll (L ++ (rs.take (j + 1)).map plainR) = rAll (L ++ (rs.take j).map plainR) ++ rCells (plainR r)) := by
                  unfold Hid; rw [take_snoc hr]; simp [rAll]
                have p0 := hPj.cell 0
                have y0 := hPj.frozen 0
                simp only [List.getElem?_toArray, List.getElem?_cons_zero] at p0
                have hPa := hPj.alloc (.cells #[.int .u32 (r.f : Nat), .int .i64 r.kind, .string r.key, .string r.val] 44)
                have hoa := hoj.alloc (.cells #[.int .u32 (r.f : Nat), .int .i64 r.kind, .string r.key, .string r.val] 44)
                have hX := Blk.new wr 44 #[.int .u32 (r.f : Nat), .int .i64 r.kind, .string r.key, .string r.val]
                have hfa := hfr.trans (Fr.alloc (S := fun _ => False) wr (.cells #[.int .u32 (r.f : Nat), .int .i64 r.kind, .string r.key, .string r.val] 44)) (fun _ _ h => h.elim)
                go_wp2_with fail
                generalize hW1 : wr.alloc (.cells #[.int .u32 (r.f : Nat), .int .i64 r.kind, .string r.key, .string r.val] 44) = W1 at *
                clear hW1 c0 c1 c2 c3 p0 y0 hPj hoj hfr
                have p0 := hPa.cell 0
                have y0 := hPa.frozen 0
                have d0 := hX.cell 0
                have d1 := hX.cell 1
                have d2 := hX.cell 2
                have d3 := hX.cell 3
                simp only [List.getElem?_toArray, List.getElem?_cons_succ, List.getElem?_cons_zero] at p0 d0 d1 d2 d3
                have hs1 := hfa.size
                have hneP : some P ≠ (Value.slice A' (n + j) c').ownBlock := ne_types hPa hoa (by decide)
                generalize wr.heap.size = X at *
                go_region_law (first
                  | (go_simp
                     go_at_call 139
                     refine (hpl _).mono ?_
                     rintro e w5 ⟨rfl, hb5⟩
                     have hP5 := Blk.ext hPa.drew hb5
                     have ho5 := own_below_d hoa hb5
                     have p5 := hP5.cell 0
                     have y5 := hP5.frozen 0
                     simp only [List.getElem?_toArray, List.getElem?_cons_zero] at p5
                     have p6 := (hP5.alloc (.cells #[.int .u32 ((plainR r).f : Nat), .int .i64 (plainR r).kind, .string (plainR r).key, .string (plainR r).val] 44)).cell 0
                     simp only [List.getElem?_toArray, List.getElem?_cons_zero] at p6
                     have hsL : base ≤ (w5.alloc (.cells #[.int .u32 ((plainR r).f : Nat), .int .i64 (plainR r).kind, .string (plainR r).key, .string (plainR r).val] 44)).heap.size := by
                       have := hb5.size
                       rw [World.size_drew] at this
                       rw [World.size_alloc]
                       omega
                     have hRdL := Rd.lit w5 #[.int .u32 ((plainR r).f : Nat), .int .i64 (plainR r).kind, .string (plainR r).key, .string (plainR r).val] 44 (rCells (plainR r)) rfl)
                  | (refine step_append_rd _ (by rfl) (.tmp 56) (.tmp 59) _ (by rfl) base 44 i0 _ 4 48 Try.underlying39 hi0 hz0 hz1 hz2 rfl hpos _ _ _ (by rfl) (ho5.alloc _) _ (some ⟨w5.heap.size, 0, none⟩) 1 1 (rCells (plainR r)) (by rfl) (by rfl) hRdL hone hml hby hsL ?_
                     intro vf wf hownf hgf hatf
                     have hPf := (hP5.alloc (.cells #[.int .u32 ((plainR r).f : Nat), .int .i64 (plainR r).kind, .string (plainR r).key, .string (plainR r).val] 44)).grown hgf hneP
                     obtain ⟨Af, cf, rfl, _⟩ := own_form hownf
                     have pf := hPf.cell 0
                     have yf := hPf.frozen 0
                     simp only [List.getElem?_toArray, List.getElem?_cons_zero] at pf))
                all_goals
                  have hff := (hfa.trans (Fr.drew (S := fun _ => False) W1) (fun _ _ h => h.elim)).trans (Fr.ext (S := fun _ => False) hb5) (fun _ _ h => h.elim)
                  have hfg := hff.trans (Fr.alloc (S := fun _ => False) w5 (.cells #[.int .u32 ((plainR r).f : Nat), .int .i64 (plainR r).kind, .string (plainR r).key, .string (plainR r).val] 44)) (fun _ _ h => h.elim)
                  have hfh := hfg.trans (Fr.of_grown (S := fun x => some x = (Value.slice A' (n + j) c').ownBlock) hgf (fun k e => e)) (fun x hx e => by
                    rcases hob.out with h1 | ⟨g1, h1, h2⟩
                    · rw [h1] at e; exact .inr e
                    · rw [h1] at e; injection e with e; omega)
                  have hfi := hfh.trans (Fr.store wf ⟨P, 0, none⟩ (.slice Af (n + j + 1) cf) (S := fun x => x = P) rfl) (fun _ _ e => .inl e)
                  have hof := (Fr.store wf ⟨P, 0, none⟩ (.slice Af (n + j + 1) cf) (S := fun x => x = P) rfl).own hownf (fun g hg e => by have := (hownf.lt g hg).1; omega)
                  have hPg := hPf.set 0 (.slice Af (n + j + 1) cf)
                  have hbf : Hid ((Value.slice Af (n + j + 1) cf).ownBlock = (Value.slice A n c).ownBlock ∨ ∃ g, (Value.slice Af (n + j + 1) cf).ownBlock = some g ∧ w.heap.size ≤ g) := by
                    rcases hatf with e | e
                    · rcases hob.out with h1 | ⟨g1, h1, h2⟩
                      · exact .inl (e.trans h1)
                      · exact .inr ⟨g1, e.trans h1, h2⟩
                    · refine .inr ⟨_, e, ?_⟩
                      have := hfg.size
                      exact this
                  clear hff hfg hfh hob hatf hownf hgf
                  go_wp2
                  go_roundw
                  case rel => exact ⟨j + 1, Af, cf, by omega, by go_num, hfi, (show Blk _ _ _ #[.slice Af (n + j + 1) cf, .int .i64 sz, m] by simpa using hPg), by rw [hst.out]; exact hof, hbf⟩
                  case measure => simp [intOf]; omega
              · obtain rfl : j = k := by omega
                have h1 := hPj.cell 1
                have h2 := hPj.frozen 1
                simp only [List.getElem?_toArray, List.getElem?_cons_succ, List.getElem?_cons_zero] at h1
                go_wp2
                go_ret
                have hf2 := hfr.trans (Fr.store wr ⟨P, 1, none⟩ (.int .i64 ((s0 : Int) + (S : Int))) (S := fun x => x = P ∨ some x = (Value.slice A n c).ownBlock) (.inl rfl)) (fun _ _ h => h)
                have hP2 := hPj.set 1 (.int .i64 ((s0 : Int) + (S : Int)))
                refine ⟨by rw [hee.out]; rfl, fun h0 => absurd hee.out h0, fun _ => ⟨A', c', hf2, ?_, ?_, ?_⟩⟩
                · rw [hlR.out, ← hs2.out, hS2.out]
                  simpa using hP2
                · rw [hlR.out]
                  rw [htk] at hoj
                  exact (Fr.store wr ⟨P, 1, none⟩ (.int .i64 ((s0 : Int) + (S : Int))) (S := fun x => x = P) rfl).own hoj (fun g hg e => by have := (hoj.lt g hg).1; omega)
                · rw [hlR.out]
                  exact hob.out
end Go.Proofs.Ytonhhbebpcaaeaa
