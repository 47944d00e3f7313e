/- The walk of batch.Decode: the records. -/
import Derived.Test.YtonhhbebpcaaeaaDecK
import Derived.Deep.RegionLaw
import Derived.Deep.AppendLies
namespace Go.Proofs.Ytonhhbebpcaaeaa
open Go.RowKit

def prep (acc : List Rec) : Except Nat (List Rec × List UInt8) → Except Nat (List Rec × List UInt8)
  | .error e => .error e
  | .ok (rs, zs) => .ok (acc ++ rs, zs)
theorem prep_nil (x : Except Nat (List Rec × List UInt8)) : prep [] x = x := by cases x <;> rfl
theorem prep_step (acc : List Rec) (n : Nat) (ys zs : List UInt8) (r : Rec) (h : rdRec ys = .ok (r, zs)) : prep acc (rdAll (n + 1) ys) = prep (acc ++ [r]) (rdAll n zs) := by
  simp only [rdAll, h]
  cases rdAll n zs with
  | error e => rfl
  | ok p => obtain ⟨rs, us⟩ := p; simp [prep]
theorem prep_bad (acc : List Rec) (n : Nat) (ys : List UInt8) (e : Nat) (h : rdRec ys = .error e) : prep acc (rdAll (n + 1) ys) = .error e := by
  simp only [rdAll, h, prep]
theorem rAll_snoc (acc : List Rec) (r : Rec) : rAll (acc ++ [r]) = rAll acc ++ rCells r := by simp [rAll]
theorem Brd.drew {w : World} {R : Nat} {xs : List UInt8} (h : Brd w R xs) : Brd w.drew R xs := by
  obtain ⟨A, n, c, h1, h2⟩ := h
  exact ⟨A, n, c, h1, { h2 with rd := h2.rd }⟩
theorem Tri.ext_row {w w' : World} {G : Nat} {a b c v : Value} (h : Tri w G a b c) (hg : w.grownBy w' v.ownBlock) (hv : ∀ g, v.ownBlock = some g → G + 1 + 1 < g) : Tri w' G a b c := by
  have hne : ∀ X, X ≤ G + 1 + 1 → some X ≠ v.ownBlock := fun X hX e => by have := hv X e.symm; omega
  exact ⟨h.1.grown hg (hne _ (by omega)), h.2.1.grown hg (hne _ (by omega)), h.2.2.grown hg (hne _ (by omega))⟩
theorem Rd.lit (w : World) (cs : Array Value) (t : TypeId) (vs : List Value) (h : vs = cs.toList) : Rd (w.alloc (.cells cs t)) (w.alloc (.cells cs t)).heap.size (some ⟨w.heap.size, 0, none⟩) vs := by
  refine .inr ⟨_, 0, rfl, by simp, fun j u hu => ?_⟩
  rw [Nat.zero_add, (Blk.new w t cs).cell j]
  subst h
  simpa using hu
theorem own_far {w : World} {b : Nat} {e : TypeId} {sz : Nat} {v : Value} {n : Nat} {xs : List Value} {X i : Nat} (h : w.ownsRow b e sz v n xs) (hX : X < b) (u : Value) : (w.setCell ⟨X, i, none⟩ u).ownsRow b e sz v n xs := by
  refine ⟨h.1, ?_⟩
  rcases h.2 with h2 | ⟨g, cap, cur, h1, h2, h3, h4⟩
  · exact .inl h2
  · exact .inr ⟨g, cap, cur, h1, h2, (Below.heap_setCell w ⟨X, i, none⟩ u g (by simp; omega)).trans h3, h4⟩
theorem info_rec : (Try.prog.info? 44).map (fun i => (i.zero, i.size, i.bytes)) = some (some (.agg rZ), 4, 48) := by kernel_rfl

set_option maxRecDepth 100000 in
set_option maxHeartbeats 4000000 in
theorem decode_main (A : Option Addr) (n c : Nat) (xs : List UInt8) (w : World) (h : Bsl w w.heap.size A n c xs) (hn : 12 ≤ n) (hn2 : n ≤ 4194304) (hs : leNat (xs.take 8) ≤ 72057594037927935) (hm : leNat ((xs.drop 8).take 4) ≤ 4096) (hff : fitsOf (leNat (xs.take 8)) (leNat ((xs.drop 8).take 4)) = true) :
    Calls Try.prog 21 #[.slice A n c] w (DecPost w xs) := by
  have hl := h.len
  have hcap := h.cap
  have hbig := h.big
  unfold maxLen at hbig
  have hmf : ∀ (fn : Fn) (first cap : Array Value) (w : World), (Instr.makeFunc fn first cap).run Try.prog w = .ok (.func fn first cap) w := fun _ _ _ _ => rfl
  have hd : decide ((n : Int) > 4194304) = false := by simp; omega
  have hP := ((Blk.new w 38 #[.int .u64 0]).alloc (.cells #[.slice none 0 0] 39)).alloc (.cells #[.int .i64 0] 28)
  have hQ := (Blk.new (w.alloc (.cells #[.int .u64 0] 38)) 39 #[.slice none 0 0]).alloc (.cells #[.int .i64 0] 28)
  have hE := Blk.new ((w.alloc (.cells #[.int .u64 0] 38)).alloc (.cells #[.slice none 0 0] 39)) 28 #[.int .i64 0]
  rw [show (w.alloc (.cells #[.int .u64 0] 38)).heap.size = w.heap.size + 1 by simp] at hQ
  rw [show ((w.alloc (.cells #[.int .u64 0] 38)).alloc (.cells #[.slice none 0 0] 39)).heap.size = w.heap.size + 1 + 1 by simp] at hE
  have hb0 : Below w.heap.size w (((w.alloc (.cells #[.int .u64 0] 38)).alloc (.cells #[.slice none 0 0] 39)).alloc (.cells #[.int .i64 0] 28)) := (((Below.refl _ _).alloc (Nat.le_refl _) _).alloc (by simp) _).alloc (by simp; omega) _
  have hr := readFixed64_w A n c xs _ ((h.below hb0).more hb0.size) (by omega)
  have hm32 : leNat ((xs.drop 8).take 4) < 4294967296 := by omega
  have hpost : Hid (decode xs = match rdAll (leNat ((xs.drop 8).take 4)) (xs.drop 12) with
    | .error e => .error e
    | .ok (rs, ys) => if 0 < ys.length then .error 5 else .ok (leNat (xs.take 8), rs)) := by
    unfold Hid decode; rw [if_neg (by omega), if_neg (by omega), if_neg (by omega), if_neg (by omega), if_neg (by rw [hff]; simp; omega)]
    rfl
  obtain ⟨g, o, rfl, hg, hcell⟩ := h.at_ (k := 0) (by omega)
  clear hcell
  have h8 := h.cut (k := 8) (by omega)
  have h12 := h.cut (k := 12) (by omega)
  have h12' := fun hk => h.cut0 (k := 12) hk (by omega)
  have hr32 := fun w (hw : Bsl w w.heap.size (some ⟨g, o + 8, none⟩) (n - 8) (c - 8) (xs.drop 8)) => readFixed32_w (some ⟨g, o + 8, none⟩) (n - 8) (c - 8) (xs.drop 8) w hw (by omega)
  have hft := fun w => fits_w (leNat (xs.take 8)) (leNat ((xs.drop 8).take 4)) (by omega) (by unfold maxB; omega) w
  rw [hff] at hft
  generalize leNat (xs.take 8) = seq at *
  generalize leNat ((xs.drop 8).take 4) = m at *
  have hd2 : decide ((seq : Int) > 72057594037927935) = false := by simp; omega
  have hc8 : ¬ c = 8 := by omega
  have hd3 : decide ((m : Int) > 4096) = false := by simp; omega
  go_enter_defers Try.func21, Try.ntmps21
  go_wp2_with (first
    | (go_at_call 59; refine hr.mono ?_; rintro e w1 ⟨rfl, hb1⟩; have hT1 : Tri w1 w.heap.size _ _ _ := ⟨hP.ext hb1, hQ.ext hb1, hE.ext hb1⟩; have p1 := hT1.1.cell 0; have q1 := hT1.2.1.cell 0; have e1 := hT1.2.2.cell 0; have zp := hT1.1.frozen 0; have zq := hT1.2.1.frozen 0; have ze := hT1.2.2.frozen 0; simp only [List.getElem?_toArray, List.getElem?_cons_zero] at p1 q1 e1; have hbw1 := hb0.trans (hb1.mono hb0.size); have hs1 : w.heap.size + 3 ≤ w1.heap.size := by have := hb1.size; simp at this; omega)
    | (go_at_call 60; refine (hr32 _ ((h8.below (below_set (below_set hbw1 (Nat.le_refl _)) (by omega))).more (by simp; omega))).mono ?_; rintro e w2 ⟨rfl, hb2⟩; have hT2 := ((hT1.p (.int .u64 (seq : Nat))).r (.int .i64 0)).ext hb2; have hT3 := hT2.r (.int .i64 0); have p2 := hT2.1.cell 0; have q2 := hT2.2.1.cell 0; have e2 := hT2.2.2.cell 0; have zp2 := hT2.1.frozen 0; have zq2 := hT2.2.1.frozen 0; have ze2 := hT2.2.2.frozen 0; simp only [List.getElem?_toArray, List.getElem?_cons_zero] at p2 q2 e2; have p3 := hT3.1.cell 0; have q3 := hT3.2.1.cell 0; have e3 := hT3.2.2.cell 0; simp only [List.getElem?_toArray, List.getElem?_cons_zero] at p3 q3 e3)
    | (go_at_call 46; refine (hft _).mono ?_; rintro e w3 ⟨rfl, hw3⟩; subst hw3))
  · have hT3' := hT3
    have hs2 : w.heap.size + 3 ≤ w2.heap.size := by have := hb2.size; simp at this; omega
    have hbw2 : Below w.heap.size w (w2.setCell ⟨w.heap.size + 1 + 1, 0, none⟩ (.int .i64 0)) := below_set ((below_set (below_set hbw1 (g := w.heap.size) (i := 0) (v := .int .u64 (seq : Nat)) (Nat.le_refl _)) (g := w.heap.size + 1 + 1) (i := 0) (v := .int .i64 0) (by omega)).trans (hb2.mono (by simp; omega))) (by omega)
    have hsz3 : (w2.setCell ⟨w.heap.size + 1 + 1, 0, none⟩ (.int .i64 0)).heap.size = w2.heap.size := by simp
    have hbrd : Brd ((w2.setCell ⟨w.heap.size + 1 + 1, 0, none⟩ (.int .i64 0)).alloc (.cells #[.slice (some ⟨g, o, none⟩) (n - 12) 0] 114)) w2.heap.size (xs.drop 12) := by
      have hh := h12' (by assumption)
      refine ⟨_, _, _, by have := Blk.new (w2.setCell ⟨w.heap.size + 1 + 1, 0, none⟩ (.int .i64 0)) 114 #[.slice (some ⟨g, o, none⟩) (n - 12) 0]; rwa [hsz3] at this, ?_⟩
      exact (hh.below (hbw2.alloc (by omega) _)).more (by omega)
    generalize hRR : w2.heap.size = R at *
    clear hRR
    go_loopw [44] (fun i wr => ∃ (k : Nat) (acc : List Rec) (vl : Value) (ys : List UInt8), k ≤ m ∧ i = .int .u32 k ∧ Hid (acc.length = k) ∧ Tri wr w.heap.size (.int .u64 (seq : Nat)) vl (.int .i64 0) ∧ Brd wr R ys ∧ wr.ownsRow (R + 1) 44 4 vl k (rAll acc) ∧ Below w.heap.size w wr ∧ Hid (rdAll m (xs.drop 12) = prep acc (rdAll (m - k) ys))) (fun i _ => m - (intOf i).toNat)
    case atStart => exact ⟨0, [], .slice none 0 0, xs.drop 12, by omega, rfl, hide rfl, hT3'.alloc _, hbrd, World.ownsRow_nil _ _ _ _, hbw2.alloc (by omega) _, by unfold Hid; rw [prep_nil]; rfl⟩
    case round =>
      obtain ⟨k, acc, vl, ys, hk, rfl, hlen, hT, hB, how, hbw, hprep⟩ := hrel
      have hRl := hB.lt
      have tp := hT.1.cell 0
      have tq := hT.2.1.cell 0
      have te := hT.2.2.cell 0
      have yp := hT.1.frozen 0
      have yq := hT.2.1.frozen 0
      have ye := hT.2.2.frozen 0
      simp only [List.getElem?_toArray, List.getElem?_cons_zero] at tp tq te
      clear hT1 hT2 hT3 hT3' hb1 hb2 hbw1 hbw2 hs1 hP hQ hE hb0 hr hr32 hft h12 h12' h8 hbrd hsz3 p1 q1 e1 p2 q2 e2 p3 q3 e3 zp zq ze zp2 zq2 ze2
      by_cases hlt : k < m
      · obtain ⟨j, hj⟩ : ∃ j, m - k = j + 1 := ⟨m - k - 1, by omega⟩
        rw [hj] at hprep
        cases hq : rdRec ys with
        | error er =>
          have hpr : Hid (decode xs = .error er) := by
            unfold Hid
            rw [hpost.out, hprep.out, prep_bad acc j ys er hq]
          clear hprep hpost
          go_wp2_with fail
          refine wp_region_any (by kernel_rfl) ?_
          change wpAny _ _ _ _ _ _ _ (World.drew _)
          refine wpAny_ready (rs := [0, 1]) (by kernel_rfl) (by simp) ?_
          refine AllReady.cons rfl (fun K hK => ?_) (AllReady.cons rfl (fun K hK => ?_) AllReady.nil)
          · go_simp
            refine hK _ _ ?_
            clear hK K
            refine wpAny_ready (rs := [1]) (by kernel_rfl) (by simp) ?_
            refine AllReady.cons rfl (fun K hK => ?_) AllReady.nil
            go_simp
            refine hK _ _ ?_
            clear hK K
            refine wpAny_ready (rs := [2]) (by kernel_rfl) (by simp) ?_
            refine AllReady.cons rfl (fun K hK => ?_) AllReady.nil
            go_simp
            go_wp2_with (go_at_call 61; refine (record_w R ys _ hB.drew).mono ?_; rintro e w5 ⟨hg5, h5⟩; rw [hq] at h5; simp only [pan] at h5; subst h5)
            have hT5 := hT.drew.grown hg5 (by omega)
            have q5 := hT5.2.1.cell 0
            simp only [List.getElem?_toArray, List.getElem?_cons_zero] at q5
            have hbw5 : Below w.heap.size w w5 := (below_drew hbw).trans (below_of_grown hg5 (by omega) (by have := hbw.size; simpa using this))
            refine door_pan (G := w.heap.size) rfl rfl rfl hT5.1 hT5.2.1 hT5.2.2 (fun w' hb' => ⟨hbw5.trans hb', ?_⟩)
            rw [hpr.out]
          · go_simp
            refine hK _ _ ?_
            clear hK K
            refine wpAny_ready (rs := [0, 2]) (by kernel_rfl) (by simp) ?_
            refine AllReady.cons rfl (fun K hK => ?_) (AllReady.cons rfl (fun K hK => ?_) AllReady.nil)
            · go_simp
              refine hK _ _ ?_
              clear hK K
              refine wpAny_ready (rs := [2]) (by kernel_rfl) (by simp) ?_
              refine AllReady.cons rfl (fun K hK => ?_) AllReady.nil
              go_simp
              go_wp2_with (go_at_call 61; refine (record_w R ys _ hB.drew).mono ?_; rintro e w5 ⟨hg5, h5⟩; rw [hq] at h5; simp only [pan] at h5; subst h5)
              have hT5 := hT.drew.grown hg5 (by omega)
              have q5 := hT5.2.1.cell 0
              simp only [List.getElem?_toArray, List.getElem?_cons_zero] at q5
              have hbw5 : Below w.heap.size w w5 := (below_drew hbw).trans (below_of_grown hg5 (by omega) (by have := hbw.size; simpa using this))
              refine door_pan (G := w.heap.size) rfl rfl rfl hT5.1 hT5.2.1 hT5.2.2 (fun w' hb' => ⟨hbw5.trans hb', ?_⟩)
              rw [hpr.out]
            · go_simp
              go_wp2_with (go_at_call 61; refine (record_w R ys _ hB.drew).mono ?_; rintro e w5 ⟨hg5, h5⟩; rw [hq] at h5; simp only [pan] at h5; subst h5)
              have hT5 := hT.drew.grown hg5 (by omega)
              have q5 := hT5.2.1.cell 0
              simp only [List.getElem?_toArray, List.getElem?_cons_zero] at q5
              have hbw5 : Below w.heap.size w w5 := (below_drew hbw).trans (below_of_grown hg5 (by omega) (by have := hbw.size; simpa using this))
              refine door_pan (G := w.heap.size) rfl rfl rfl hT5.1 hT5.2.1 hT5.2.2 (fun w' hb' => ⟨hbw5.trans hb', ?_⟩)
              rw [hpr.out]
        | ok p =>
          obtain ⟨r, zs⟩ := p
          have hprep2 : Hid (rdAll m (xs.drop 12) = prep (acc ++ [r]) (rdAll (m - (k + 1)) zs)) := by
            unfold Hid
            rw [hprep.out, prep_step acc j ys zs r hq, show m - (k + 1) = j by omega]
          obtain ⟨i0, hi0, hz0, hz1, hz2⟩ := info_parts info_rec
          obtain ⟨A8, c8, rfl, hform⟩ := own_form how
          have hneR : ∀ g', (Value.slice A8 k c8).ownBlock = some g' → R < g' := by
            rcases hform with ⟨rfl, _⟩ | ⟨g1, rfl, h1, h2⟩
            · intro g' e; simp [Value.ownBlock] at e
            · intro g' e; rw [h2] at e; injection e with e; omega
          have hneK : (Value.slice A8 k c8).ownBlock = none ∨ (Value.slice A8 k c8).ownBlock ≠ some R := .inr fun e => by have := hneR R e; omega
          have hneT : ∀ g', (Value.slice A8 k c8).ownBlock = some g' → w.heap.size + 1 + 1 < g' := fun g' e => by have := hneR g' e; omega
          have hpos : 0 < 4 := by omega
          have hml : k + 1 ≤ maxLen := by unfold maxLen; omega
          have hby : (k + 1) * 48 ≤ 140737488355328 := by omega
          have hone : ∀ u ∈ rCells r, u.oneCell' = true := by simp [rCells, Value.oneCell']
          clear hprep hpost
          go_wp2_with fail
          refine wp_region_any (by kernel_rfl) ?_
          change wpAny _ _ _ _ _ _ _ (World.drew _)
          refine wpAny_ready (rs := [0, 1]) (by kernel_rfl) (by simp) ?_
          refine AllReady.cons rfl (fun K hK => ?_) (AllReady.cons rfl (fun K hK => ?_) AllReady.nil)
          · go_simp
            refine hK _ _ ?_
            clear hK K
            refine wpAny_ready (rs := [1]) (by kernel_rfl) (by simp) ?_
            refine AllReady.cons rfl (fun K hK => ?_) AllReady.nil
            go_simp
            refine hK _ _ ?_
            clear hK K
            refine wpAny_ready (rs := [2]) (by kernel_rfl) (by simp) ?_
            refine AllReady.cons rfl (fun K hK => ?_) AllReady.nil
            go_simp
            go_at_call 61
            refine (record_w R ys _ hB.drew).mono ?_
            rintro e w5 ⟨hg5, h5⟩
            rw [hq] at h5
            simp only [vRec] at h5
            obtain ⟨rfl, hB5⟩ := h5
            have hT5 := hT.drew.grown hg5 (by omega)
            have q5 := hT5.2.1.cell 0
            simp only [List.getElem?_toArray, List.getElem?_cons_zero] at q5
            have hbw5 : Below w.heap.size w w5 := (below_drew hbw).trans (below_of_grown hg5 (by omega) (by have := hbw.size; simpa using this))
            have how5 : w5.ownsRow (R + 1) 44 4 (.slice A8 k c8) k (rAll acc) := (own_drew how).kept hg5 hneK
            have hRdL := Rd.lit w5 #[.int .u32 (r.f : Nat), .int .i64 r.kind, .string r.key, .string r.val] 44 (rCells r) rfl
            have q6 := (hT5.alloc (.cells #[.int .u32 (r.f : Nat), .int .i64 r.kind, .string r.key, .string r.val] 44)).2.1.cell 0
            simp only [List.getElem?_toArray, List.getElem?_cons_zero] at q6
            have hsL : R + 1 ≤ (w5.alloc (.cells #[.int .u32 (r.f : Nat), .int .i64 r.kind, .string r.key, .string r.val] 44)).heap.size := by have := hB5.lt; simp; omega
            first
              | (refine hK _ _ ?_; clear hK K)
              | skip
            refine wpAny_ready (rs := [3]) (by kernel_rfl) (by simp) ?_
            refine AllReady.cons rfl (fun K hK => ?_) AllReady.nil
            go_simp
            refine hK _ _ ?_
            clear hK K
            refine wpAny_ready (rs := [4]) (by kernel_rfl) (by simp) ?_
            refine AllReady.cons rfl (fun K hK => ?_) AllReady.nil
            (refine step_append_rd _ (by rfl) (.tmp 46) (.tmp 49) _ (by rfl) (R + 1) 44 i0 _ 4 48 Try.underlying39 hi0 hz0 hz1 hz2 rfl hpos _ _ _ (by rfl) (how5.alloc _) _ (some ⟨w5.heap.size, 0, none⟩) 1 1 (rCells r) (by rfl) (by rfl) hRdL hone hml hby hsL ?_)
            intro vf wf hownf hgf hatf
            have hTf : Tri wf w.heap.size (.int .u64 (seq : Nat)) (.slice A8 k c8) (.int .i64 0) := (hT5.alloc _).ext_row hgf hneT
            obtain ⟨Af, cf, rfl, _⟩ := own_form hownf
            have t1 := hTf.1.cell 0
            have t2 := hTf.2.1.cell 0
            have t3 := hTf.2.2.cell 0
            have t4 := hTf.2.1.frozen 0
            simp only [List.getElem?_toArray, List.getElem?_cons_zero] at t1 t2 t3
            refine hK _ _ ?_
            clear hK K
            refine wpAny_ready (rs := [5]) (by kernel_rfl) (by simp) ?_
            refine AllReady.cons rfl (fun K hK => ?_) AllReady.nil
            go_simp
            refine hK _ _ ?_
            clear hK K
            refine wpAny_done (by kernel_rfl) ?_ _
            rw [← rAll_snoc] at hownf
            have hbwf : Below w.heap.size w wf := below_app' (hbw5.alloc (by have := hbw5.size; omega) _) (own_base (how5.alloc _) (by omega)) (by have := hbw5.size; simp; omega) hgf rfl
            have hBf : Brd wf R zs := by
              have hB6 := hB5.alloc (.cells #[.int .u32 (r.f : Nat), .int .i64 r.kind, .string r.key, .string r.val] 44)
              obtain ⟨A7, n7, c7, h7, h7'⟩ := hB6
              have hbR := below_app' ((Below.refl (R + 1) _)) (how5.alloc (.cells #[.int .u32 (r.f : Nat), .int .i64 r.kind, .string r.key, .string r.val] 44)) hsL hgf rfl
              exact ⟨A7, n7, c7, h7.below hbR (by omega), h7'.below (hbR.mono (by omega))⟩
            go_wp2
            go_roundw
            case rel => exact ⟨k + 1, acc ++ [r], .slice Af (k + 1) cf, zs, by omega, by go_num, by unfold Hid; rw [List.length_append, hlen.out]; rfl, hTf.q _, hBf.store (by omega) t2 _, own_far hownf (by omega) _, below_set hbwf (by omega), hprep2⟩
            case measure => simp [intOf]; omega
          · go_simp
            refine hK _ _ ?_
            clear hK K
            refine wpAny_ready (rs := [0, 2]) (by kernel_rfl) (by simp) ?_
            refine AllReady.cons rfl (fun K hK => ?_) (AllReady.cons rfl (fun K hK => ?_) AllReady.nil)
            · go_simp
              refine hK _ _ ?_
              clear hK K
              refine wpAny_ready (rs := [2]) (by kernel_rfl) (by simp) ?_
              refine AllReady.cons rfl (fun K hK => ?_) AllReady.nil
              go_simp
              go_at_call 61
              refine (record_w R ys _ hB.drew).mono ?_
              rintro e w5 ⟨hg5, h5⟩
              rw [hq] at h5
              simp only [vRec] at h5
              obtain ⟨rfl, hB5⟩ := h5
              have hT5 := hT.drew.grown hg5 (by omega)
              have q5 := hT5.2.1.cell 0
              simp only [List.getElem?_toArray, List.getElem?_cons_zero] at q5
              have hbw5 : Below w.heap.size w w5 := (below_drew hbw).trans (below_of_grown hg5 (by omega) (by have := hbw.size; simpa using this))
              have how5 : w5.ownsRow (R + 1) 44 4 (.slice A8 k c8) k (rAll acc) := (own_drew how).kept hg5 hneK
              have hRdL := Rd.lit w5 #[.int .u32 (r.f : Nat), .int .i64 r.kind, .string r.key, .string r.val] 44 (rCells r) rfl
              have q6 := (hT5.alloc (.cells #[.int .u32 (r.f : Nat), .int .i64 r.kind, .string r.key, .string r.val] 44)).2.1.cell 0
              simp only [List.getElem?_toArray, List.getElem?_cons_zero] at q6
              have hsL : R + 1 ≤ (w5.alloc (.cells #[.int .u32 (r.f : Nat), .int .i64 r.kind, .string r.key, .string r.val] 44)).heap.size := by have := hB5.lt; simp; omega
              first
                | (refine hK _ _ ?_; clear hK K)
                | skip
              refine wpAny_ready (rs := [3]) (by kernel_rfl) (by simp) ?_
              refine AllReady.cons rfl (fun K hK => ?_) AllReady.nil
              go_simp
              refine hK _ _ ?_
              clear hK K
              refine wpAny_ready (rs := [4]) (by kernel_rfl) (by simp) ?_
              refine AllReady.cons rfl (fun K hK => ?_) AllReady.nil
              (refine step_append_rd _ (by rfl) (.tmp 46) (.tmp 49) _ (by rfl) (R + 1) 44 i0 _ 4 48 Try.underlying39 hi0 hz0 hz1 hz2 rfl hpos _ _ _ (by rfl) (how5.alloc _) _ (some ⟨w5.heap.size, 0, none⟩) 1 1 (rCells r) (by rfl) (by rfl) hRdL hone hml hby hsL ?_)
              intro vf wf hownf hgf hatf
              have hTf : Tri wf w.heap.size (.int .u64 (seq : Nat)) (.slice A8 k c8) (.int .i64 0) := (hT5.alloc _).ext_row hgf hneT
              obtain ⟨Af, cf, rfl, _⟩ := own_form hownf
              have t1 := hTf.1.cell 0
              have t2 := hTf.2.1.cell 0
              have t3 := hTf.2.2.cell 0
              have t4 := hTf.2.1.frozen 0
              simp only [List.getElem?_toArray, List.getElem?_cons_zero] at t1 t2 t3
              refine hK _ _ ?_
              clear hK K
              refine wpAny_ready (rs := [5]) (by kernel_rfl) (by simp) ?_
              refine AllReady.cons rfl (fun K hK => ?_) AllReady.nil
              go_simp
              refine hK _ _ ?_
              clear hK K
              refine wpAny_done (by kernel_rfl) ?_ _
              rw [← rAll_snoc] at hownf
              have hbwf : Below w.heap.size w wf := below_app' (hbw5.alloc (by have := hbw5.size; omega) _) (own_base (how5.alloc _) (by omega)) (by have := hbw5.size; simp; omega) hgf rfl
              have hBf : Brd wf R zs := by
                have hB6 := hB5.alloc (.cells #[.int .u32 (r.f : Nat), .int .i64 r.kind, .string r.key, .string r.val] 44)
                obtain ⟨A7, n7, c7, h7, h7'⟩ := hB6
                have hbR := below_app' ((Below.refl (R + 1) _)) (how5.alloc (.cells #[.int .u32 (r.f : Nat), .int .i64 r.kind, .string r.key, .string r.val] 44)) hsL hgf rfl
                exact ⟨A7, n7, c7, h7.below hbR (by omega), h7'.below (hbR.mono (by omega))⟩
              go_wp2
              go_roundw
              case rel => exact ⟨k + 1, acc ++ [r], .slice Af (k + 1) cf, zs, by omega, by go_num, by unfold Hid; rw [List.length_append, hlen.out]; rfl, hTf.q _, hBf.store (by omega) t2 _, own_far hownf (by omega) _, below_set hbwf (by omega), hprep2⟩
              case measure => simp [intOf]; omega
            · go_simp
              go_at_call 61
              refine (record_w R ys _ hB.drew).mono ?_
              rintro e w5 ⟨hg5, h5⟩
              rw [hq] at h5
              simp only [vRec] at h5
              obtain ⟨rfl, hB5⟩ := h5
              have hT5 := hT.drew.grown hg5 (by omega)
              have q5 := hT5.2.1.cell 0
              simp only [List.getElem?_toArray, List.getElem?_cons_zero] at q5
              have hbw5 : Below w.heap.size w w5 := (below_drew hbw).trans (below_of_grown hg5 (by omega) (by have := hbw.size; simpa using this))
              have how5 : w5.ownsRow (R + 1) 44 4 (.slice A8 k c8) k (rAll acc) := (own_drew how).kept hg5 hneK
              have hRdL := Rd.lit w5 #[.int .u32 (r.f : Nat), .int .i64 r.kind, .string r.key, .string r.val] 44 (rCells r) rfl
              have q6 := (hT5.alloc (.cells #[.int .u32 (r.f : Nat), .int .i64 r.kind, .string r.key, .string r.val] 44)).2.1.cell 0
              simp only [List.getElem?_toArray, List.getElem?_cons_zero] at q6
              have hsL : R + 1 ≤ (w5.alloc (.cells #[.int .u32 (r.f : Nat), .int .i64 r.kind, .string r.key, .string r.val] 44)).heap.size := by have := hB5.lt; simp; omega
              first
                | (refine hK _ _ ?_; clear hK K)
                | skip
              refine wpAny_ready (rs := [0, 3]) (by kernel_rfl) (by simp) ?_
              refine AllReady.cons rfl (fun K hK => ?_) (AllReady.cons rfl (fun K hK => ?_) AllReady.nil)
              · go_simp
                refine hK _ _ ?_
                clear hK K
                refine wpAny_ready (rs := [3]) (by kernel_rfl) (by simp) ?_
                refine AllReady.cons rfl (fun K hK => ?_) AllReady.nil
                go_simp
                refine hK _ _ ?_
                clear hK K
                refine wpAny_ready (rs := [4]) (by kernel_rfl) (by simp) ?_
                refine AllReady.cons rfl (fun K hK => ?_) AllReady.nil
                (refine step_append_rd _ (by rfl) (.tmp 46) (.tmp 49) _ (by rfl) (R + 1) 44 i0 _ 4 48 Try.underlying39 hi0 hz0 hz1 hz2 rfl hpos _ _ _ (by rfl) (how5.alloc _) _ (some ⟨w5.heap.size, 0, none⟩) 1 1 (rCells r) (by rfl) (by rfl) hRdL hone hml hby hsL ?_)
                intro vf wf hownf hgf hatf
                have hTf : Tri wf w.heap.size (.int .u64 (seq : Nat)) (.slice A8 k c8) (.int .i64 0) := (hT5.alloc _).ext_row hgf hneT
                obtain ⟨Af, cf, rfl, _⟩ := own_form hownf
                have t1 := hTf.1.cell 0
                have t2 := hTf.2.1.cell 0
                have t3 := hTf.2.2.cell 0
                have t4 := hTf.2.1.frozen 0
                simp only [List.getElem?_toArray, List.getElem?_cons_zero] at t1 t2 t3
                refine hK _ _ ?_
                clear hK K
                refine wpAny_ready (rs := [5]) (by kernel_rfl) (by simp) ?_
                refine AllReady.cons rfl (fun K hK => ?_) AllReady.nil
                go_simp
                refine hK _ _ ?_
                clear hK K
                refine wpAny_done (by kernel_rfl) ?_ _
                rw [← rAll_snoc] at hownf
                have hbwf : Below w.heap.size w wf := below_app' (hbw5.alloc (by have := hbw5.size; omega) _) (own_base (how5.alloc _) (by omega)) (by have := hbw5.size; simp; omega) hgf rfl
                have hBf : Brd wf R zs := by
                  have hB6 := hB5.alloc (.cells #[.int .u32 (r.f : Nat), .int .i64 r.kind, .string r.key, .string r.val] 44)
                  obtain ⟨A7, n7, c7, h7, h7'⟩ := hB6
                  have hbR := below_app' ((Below.refl (R + 1) _)) (how5.alloc (.cells #[.int .u32 (r.f : Nat), .int .i64 r.kind, .string r.key, .string r.val] 44)) hsL hgf rfl
                  exact ⟨A7, n7, c7, h7.below hbR (by omega), h7'.below (hbR.mono (by omega))⟩
                go_wp2
                go_roundw
                case rel => exact ⟨k + 1, acc ++ [r], .slice Af (k + 1) cf, zs, by omega, by go_num, by unfold Hid; rw [List.length_append, hlen.out]; rfl, hTf.q _, hBf.store (by omega) t2 _, own_far hownf (by omega) _, below_set hbwf (by omega), hprep2⟩
                case measure => simp [intOf]; omega
              · go_simp
                refine hK _ _ ?_
                clear hK K
                refine wpAny_ready (rs := [0]) (by kernel_rfl) (by simp) ?_
                refine AllReady.cons rfl (fun K hK => ?_) AllReady.nil
                go_simp
                refine hK _ _ ?_
                clear hK K
                refine wpAny_ready (rs := [4]) (by kernel_rfl) (by simp) ?_
                refine AllReady.cons rfl (fun K hK => ?_) AllReady.nil
                (refine step_append_rd _ (by rfl) (.tmp 46) (.tmp 49) _ (by rfl) (R + 1) 44 i0 _ 4 48 Try.underlying39 hi0 hz0 hz1 hz2 rfl hpos _ _ _ (by rfl) (how5.alloc _) _ (some ⟨w5.heap.size, 0, none⟩) 1 1 (rCells r) (by rfl) (by rfl) hRdL hone hml hby hsL ?_)
                intro vf wf hownf hgf hatf
                have hTf : Tri wf w.heap.size (.int .u64 (seq : Nat)) (.slice A8 k c8) (.int .i64 0) := (hT5.alloc _).ext_row hgf hneT
                obtain ⟨Af, cf, rfl, _⟩ := own_form hownf
                have t1 := hTf.1.cell 0
                have t2 := hTf.2.1.cell 0
                have t3 := hTf.2.2.cell 0
                have t4 := hTf.2.1.frozen 0
                simp only [List.getElem?_toArray, List.getElem?_cons_zero] at t1 t2 t3
                refine hK _ _ ?_
                clear hK K
                refine wpAny_ready (rs := [5]) (by kernel_rfl) (by simp) ?_
                refine AllReady.cons rfl (fun K hK => ?_) AllReady.nil
                go_simp
                refine hK _ _ ?_
                clear hK K
                refine wpAny_done (by kernel_rfl) ?_ _
                rw [← rAll_snoc] at hownf
                have hbwf : Below w.heap.size w wf := below_app' (hbw5.alloc (by have := hbw5.size; omega) _) (own_base (how5.alloc _) (by omega)) (by have := hbw5.size; simp; omega) hgf rfl
                have hBf : Brd wf R zs := by
                  have hB6 := hB5.alloc (.cells #[.int .u32 (r.f : Nat), .int .i64 r.kind, .string r.key, .string r.val] 44)
                  obtain ⟨A7, n7, c7, h7, h7'⟩ := hB6
                  have hbR := below_app' ((Below.refl (R + 1) _)) (how5.alloc (.cells #[.int .u32 (r.f : Nat), .int .i64 r.kind, .string r.key, .string r.val] 44)) hsL hgf rfl
                  exact ⟨A7, n7, c7, h7.below hbR (by omega), h7'.below (hbR.mono (by omega))⟩
                go_wp2
                go_roundw
                case rel => exact ⟨k + 1, acc ++ [r], .slice Af (k + 1) cf, zs, by omega, by go_num, by unfold Hid; rw [List.length_append, hlen.out]; rfl, hTf.q _, hBf.store (by omega) t2 _, own_far hownf (by omega) _, below_set hbwf (by omega), hprep2⟩
                case measure => simp [intOf]; omega
      · obtain rfl : k = m := by omega
        have hpr : Hid (rdAll k (xs.drop 12) = .ok (acc, ys)) := by
          have := hprep.out
          rw [Nat.sub_self] at this
          unfold Hid
          rw [this]
          simp [rdAll, prep]
        rw [hpr.out] at hpost
        clear hprep
        obtain ⟨A9, n9, c9, hBk, hBs⟩ := hB
        obtain ⟨A8, c8, rfl, _⟩ := own_form how
        have sq2 := (hT.p (.int .u64 (seq : Nat))).2.1.cell 0
        simp only [List.getElem?_toArray, List.getElem?_cons_zero] at sq2
        have hl9 := hBs.len
        have b0 := hBk.cell 0
        simp only [List.getElem?_toArray, List.getElem?_cons_zero] at b0
        by_cases hy : 0 < n9
        · have dy : decide ((n9 : Int) > 0) = true := by simp; omega
          have hpf : Hid (decode xs = .error 5) := by unfold Hid; rw [hpost.out]; simp only; rw [if_pos (by omega)]
          go_wp2
          refine door_tri (G := w.heap.size) rfl rfl rfl (((hT.p _).q _).r _) ⟨?_, ?_⟩
          · repeat (first | exact hbw | refine below_set ?_ (by omega))
          · rw [hpf.out]
            rfl
        · have dy : decide ((n9 : Int) > 0) = false := by simp; omega
          have hpf : Hid (decode xs = .ok (seq, acc)) := by unfold Hid; rw [hpost.out]; simp only; rw [if_neg (by omega)]
          go_wp2_with fail
          go_region
          all_goals go_wp2
          all_goals refine door_tri (G := w.heap.size) rfl rfl rfl (((hT.p _).q _).r _).drew ⟨?_, ?_⟩
          · refine below_drew ?_
            repeat (first | exact hbw | refine below_set ?_ (by omega))
          · rw [hpf.out]
            exact ⟨_, rfl, by rw [hlen.out]; exact own_drew (own_base (own_far (own_far (own_far how (by omega) _) (by omega) _) (by omega) _) (by omega))⟩
  · have hT3' := hT3
    have hs2 : w.heap.size + 3 ≤ w2.heap.size := by have := hb2.size; simp at this; omega
    have hbw2 : Below w.heap.size w (w2.setCell ⟨w.heap.size + 1 + 1, 0, none⟩ (.int .i64 0)) := below_set ((below_set (below_set hbw1 (g := w.heap.size) (i := 0) (v := .int .u64 (seq : Nat)) (Nat.le_refl _)) (g := w.heap.size + 1 + 1) (i := 0) (v := .int .i64 0) (by omega)).trans (hb2.mono (by simp; omega))) (by omega)
    have hsz3 : (w2.setCell ⟨w.heap.size + 1 + 1, 0, none⟩ (.int .i64 0)).heap.size = w2.heap.size := by simp
    have hbrd : Brd ((w2.setCell ⟨w.heap.size + 1 + 1, 0, none⟩ (.int .i64 0)).alloc (.cells #[.slice (some ⟨g, o + 12, none⟩) (n - 12) (c - 12)] 114)) w2.heap.size (xs.drop 12) := by
      refine ⟨_, _, _, by have := Blk.new (w2.setCell ⟨w.heap.size + 1 + 1, 0, none⟩ (.int .i64 0)) 114 #[.slice (some ⟨g, o + 12, none⟩) (n - 12) (c - 12)]; rwa [hsz3] at this, ?_⟩
      exact (h12.below (hbw2.alloc (by omega) _)).more (by omega)
    generalize hRR : w2.heap.size = R at *
    clear hRR
    go_loopw [44] (fun i wr => ∃ (k : Nat) (acc : List Rec) (vl : Value) (ys : List UInt8), k ≤ m ∧ i = .int .u32 k ∧ Hid (acc.length = k) ∧ Tri wr w.heap.size (.int .u64 (seq : Nat)) vl (.int .i64 0) ∧ Brd wr R ys ∧ wr.ownsRow (R + 1) 44 4 vl k (rAll acc) ∧ Below w.heap.size w wr ∧ Hid (rdAll m (xs.drop 12) = prep acc (rdAll (m - k) ys))) (fun i _ => m - (intOf i).toNat)
    case atStart => exact ⟨0, [], .slice none 0 0, xs.drop 12, by omega, rfl, hide rfl, hT3'.alloc _, hbrd, World.ownsRow_nil _ _ _ _, hbw2.alloc (by omega) _, by unfold Hid; rw [prep_nil]; rfl⟩
    case round =>
      obtain ⟨k, acc, vl, ys, hk, rfl, hlen, hT, hB, how, hbw, hprep⟩ := hrel
      have hRl := hB.lt
      have tp := hT.1.cell 0
      have tq := hT.2.1.cell 0
      have te := hT.2.2.cell 0
      have yp := hT.1.frozen 0
      have yq := hT.2.1.frozen 0
      have ye := hT.2.2.frozen 0
      simp only [List.getElem?_toArray, List.getElem?_cons_zero] at tp tq te
      clear hT1 hT2 hT3 hT3' hb1 hb2 hbw1 hbw2 hs1 hP hQ hE hb0 hr hr32 hft h12 h12' h8 hbrd hsz3 p1 q1 e1 p2 q2 e2 p3 q3 e3 zp zq ze zp2 zq2 ze2
      by_cases hlt : k < m
      · obtain ⟨j, hj⟩ : ∃ j, m - k = j + 1 := ⟨m - k - 1, by omega⟩
        rw [hj] at hprep
        cases hq : rdRec ys with
        | error er =>
          have hpr : Hid (decode xs = .error er) := by
            unfold Hid
            rw [hpost.out, hprep.out, prep_bad acc j ys er hq]
          clear hprep hpost
          go_wp2_with fail
          refine wp_region_any (by kernel_rfl) ?_
          change wpAny _ _ _ _ _ _ _ (World.drew _)
          refine wpAny_ready (rs := [0, 1]) (by kernel_rfl) (by simp) ?_
          refine AllReady.cons rfl (fun K hK => ?_) (AllReady.cons rfl (fun K hK => ?_) AllReady.nil)
          · go_simp
            refine hK _ _ ?_
            clear hK K
            refine wpAny_ready (rs := [1]) (by kernel_rfl) (by simp) ?_
            refine AllReady.cons rfl (fun K hK => ?_) AllReady.nil
            go_simp
            refine hK _ _ ?_
            clear hK K
            refine wpAny_ready (rs := [2]) (by kernel_rfl) (by simp) ?_
            refine AllReady.cons rfl (fun K hK => ?_) AllReady.nil
            go_simp
            go_wp2_with (go_at_call 61; refine (record_w R ys _ hB.drew).mono ?_; rintro e w5 ⟨hg5, h5⟩; rw [hq] at h5; simp only [pan] at h5; subst h5)
            have hT5 := hT.drew.grown hg5 (by omega)
            have q5 := hT5.2.1.cell 0
            simp only [List.getElem?_toArray, List.getElem?_cons_zero] at q5
            have hbw5 : Below w.heap.size w w5 := (below_drew hbw).trans (below_of_grown hg5 (by omega) (by have := hbw.size; simpa using this))
            refine door_pan (G := w.heap.size) rfl rfl rfl hT5.1 hT5.2.1 hT5.2.2 (fun w' hb' => ⟨hbw5.trans hb', ?_⟩)
            rw [hpr.out]
          · go_simp
            refine hK _ _ ?_
            clear hK K
            refine wpAny_ready (rs := [0, 2]) (by kernel_rfl) (by simp) ?_
            refine AllReady.cons rfl (fun K hK => ?_) (AllReady.cons rfl (fun K hK => ?_) AllReady.nil)
            · go_simp
              refine hK _ _ ?_
              clear hK K
              refine wpAny_ready (rs := [2]) (by kernel_rfl) (by simp) ?_
              refine AllReady.cons rfl (fun K hK => ?_) AllReady.nil
              go_simp
              go_wp2_with (go_at_call 61; refine (record_w R ys _ hB.drew).mono ?_; rintro e w5 ⟨hg5, h5⟩; rw [hq] at h5; simp only [pan] at h5; subst h5)
              have hT5 := hT.drew.grown hg5 (by omega)
              have q5 := hT5.2.1.cell 0
              simp only [List.getElem?_toArray, List.getElem?_cons_zero] at q5
              have hbw5 : Below w.heap.size w w5 := (below_drew hbw).trans (below_of_grown hg5 (by omega) (by have := hbw.size; simpa using this))
              refine door_pan (G := w.heap.size) rfl rfl rfl hT5.1 hT5.2.1 hT5.2.2 (fun w' hb' => ⟨hbw5.trans hb', ?_⟩)
              rw [hpr.out]
            · go_simp
              go_wp2_with (go_at_call 61; refine (record_w R ys _ hB.drew).mono ?_; rintro e w5 ⟨hg5, h5⟩; rw [hq] at h5; simp only [pan] at h5; subst h5)
              have hT5 := hT.drew.grown hg5 (by omega)
              have q5 := hT5.2.1.cell 0
              simp only [List.getElem?_toArray, List.getElem?_cons_zero] at q5
              have hbw5 : Below w.heap.size w w5 := (below_drew hbw).trans (below_of_grown hg5 (by omega) (by have := hbw.size; simpa using this))
              refine door_pan (G := w.heap.size) rfl rfl rfl hT5.1 hT5.2.1 hT5.2.2 (fun w' hb' => ⟨hbw5.trans hb', ?_⟩)
              rw [hpr.out]
        | ok p =>
          obtain ⟨r, zs⟩ := p
          have hprep2 : Hid (rdAll m (xs.drop 12) = prep (acc ++ [r]) (rdAll (m - (k + 1)) zs)) := by
            unfold Hid
            rw [hprep.out, prep_step acc j ys zs r hq, show m - (k + 1) = j by omega]
          obtain ⟨i0, hi0, hz0, hz1, hz2⟩ := info_parts info_rec
          obtain ⟨A8, c8, rfl, hform⟩ := own_form how
          have hneR : ∀ g', (Value.slice A8 k c8).ownBlock = some g' → R < g' := by
            rcases hform with ⟨rfl, _⟩ | ⟨g1, rfl, h1, h2⟩
            · intro g' e; simp [Value.ownBlock] at e
            · intro g' e; rw [h2] at e; injection e with e; omega
          have hneK : (Value.slice A8 k c8).ownBlock = none ∨ (Value.slice A8 k c8).ownBlock ≠ some R := .inr fun e => by have := hneR R e; omega
          have hneT : ∀ g', (Value.slice A8 k c8).ownBlock = some g' → w.heap.size + 1 + 1 < g' := fun g' e => by have := hneR g' e; omega
          have hpos : 0 < 4 := by omega
          have hml : k + 1 ≤ maxLen := by unfold maxLen; omega
          have hby : (k + 1) * 48 ≤ 140737488355328 := by omega
          have hone : ∀ u ∈ rCells r, u.oneCell' = true := by simp [rCells, Value.oneCell']
          clear hprep hpost
          go_wp2_with fail
          refine wp_region_any (by kernel_rfl) ?_
          change wpAny _ _ _ _ _ _ _ (World.drew _)
          refine wpAny_ready (rs := [0, 1]) (by kernel_rfl) (by simp) ?_
          refine AllReady.cons rfl (fun K hK => ?_) (AllReady.cons rfl (fun K hK => ?_) AllReady.nil)
          · go_simp
            refine hK _ _ ?_
            clear hK K
            refine wpAny_ready (rs := [1]) (by kernel_rfl) (by simp) ?_
            refine AllReady.cons rfl (fun K hK => ?_) AllReady.nil
            go_simp
            refine hK _ _ ?_
            clear hK K
            refine wpAny_ready (rs := [2]) (by kernel_rfl) (by simp) ?_
            refine AllReady.cons rfl (fun K hK => ?_) AllReady.nil
            go_simp
            go_at_call 61
            refine (record_w R ys _ hB.drew).mono ?_
            rintro e w5 ⟨hg5, h5⟩
            rw [hq] at h5
            simp only [vRec] at h5
            obtain ⟨rfl, hB5⟩ := h5
            have hT5 := hT.drew.grown hg5 (by omega)
            have q5 := hT5.2.1.cell 0
            simp only [List.getElem?_toArray, List.getElem?_cons_zero] at q5
            have hbw5 : Below w.heap.size w w5 := (below_drew hbw).trans (below_of_grown hg5 (by omega) (by have := hbw.size; simpa using this))
            have how5 : w5.ownsRow (R + 1) 44 4 (.slice A8 k c8) k (rAll acc) := (own_drew how).kept hg5 hneK
            have hRdL := Rd.lit w5 #[.int .u32 (r.f : Nat), .int .i64 r.kind, .string r.key, .string r.val] 44 (rCells r) rfl
            have q6 := (hT5.alloc (.cells #[.int .u32 (r.f : Nat), .int .i64 r.kind, .string r.key, .string r.val] 44)).2.1.cell 0
            simp only [List.getElem?_toArray, List.getElem?_cons_zero] at q6
            have hsL : R + 1 ≤ (w5.alloc (.cells #[.int .u32 (r.f : Nat), .int .i64 r.kind, .string r.key, .string r.val] 44)).heap.size := by have := hB5.lt; simp; omega
            first
              | (refine hK _ _ ?_; clear hK K)
              | skip
            refine wpAny_ready (rs := [3]) (by kernel_rfl) (by simp) ?_
            refine AllReady.cons rfl (fun K hK => ?_) AllReady.nil
            go_simp
            refine hK _ _ ?_
            clear hK K
            refine wpAny_ready (rs := [4]) (by kernel_rfl) (by simp) ?_
            refine AllReady.cons rfl (fun K hK => ?_) AllReady.nil
            (refine step_append_rd _ (by rfl) (.tmp 46) (.tmp 49) _ (by rfl) (R + 1) 44 i0 _ 4 48 Try.underlying39 hi0 hz0 hz1 hz2 rfl hpos _ _ _ (by rfl) (how5.alloc _) _ (some ⟨w5.heap.size, 0, none⟩) 1 1 (rCells r) (by rfl) (by rfl) hRdL hone hml hby hsL ?_)
            intro vf wf hownf hgf hatf
            have hTf : Tri wf w.heap.size (.int .u64 (seq : Nat)) (.slice A8 k c8) (.int .i64 0) := (hT5.alloc _).ext_row hgf hneT
            obtain ⟨Af, cf, rfl, _⟩ := own_form hownf
            have t1 := hTf.1.cell 0
            have t2 := hTf.2.1.cell 0
            have t3 := hTf.2.2.cell 0
            have t4 := hTf.2.1.frozen 0
            simp only [List.getElem?_toArray, List.getElem?_cons_zero] at t1 t2 t3
            refine hK _ _ ?_
            clear hK K
            refine wpAny_ready (rs := [5]) (by kernel_rfl) (by simp) ?_
            refine AllReady.cons rfl (fun K hK => ?_) AllReady.nil
            go_simp
            refine hK _ _ ?_
            clear hK K
            refine wpAny_done (by kernel_rfl) ?_ _
            rw [← rAll_snoc] at hownf
            have hbwf : Below w.heap.size w wf := below_app' (hbw5.alloc (by have := hbw5.size; omega) _) (own_base (how5.alloc _) (by omega)) (by have := hbw5.size; simp; omega) hgf rfl
            have hBf : Brd wf R zs := by
              have hB6 := hB5.alloc (.cells #[.int .u32 (r.f : Nat), .int .i64 r.kind, .string r.key, .string r.val] 44)
              obtain ⟨A7, n7, c7, h7, h7'⟩ := hB6
              have hbR := below_app' ((Below.refl (R + 1) _)) (how5.alloc (.cells #[.int .u32 (r.f : Nat), .int .i64 r.kind, .string r.key, .string r.val] 44)) hsL hgf rfl
              exact ⟨A7, n7, c7, h7.below hbR (by omega), h7'.below (hbR.mono (by omega))⟩
            go_wp2
            go_roundw
            case rel => exact ⟨k + 1, acc ++ [r], .slice Af (k + 1) cf, zs, by omega, by go_num, by unfold Hid; rw [List.length_append, hlen.out]; rfl, hTf.q _, hBf.store (by omega) t2 _, own_far hownf (by omega) _, below_set hbwf (by omega), hprep2⟩
            case measure => simp [intOf]; omega
          · go_simp
            refine hK _ _ ?_
            clear hK K
            refine wpAny_ready (rs := [0, 2]) (by kernel_rfl) (by simp) ?_
            refine AllReady.cons rfl (fun K hK => ?_) (AllReady.cons rfl (fun K hK => ?_) AllReady.nil)
            · go_simp
              refine hK _ _ ?_
              clear hK K
              refine wpAny_ready (rs := [2]) (by kernel_rfl) (by simp) ?_
              refine AllReady.cons rfl (fun K hK => ?_) AllReady.nil
              go_simp
              go_at_call 61
              refine (record_w R ys _ hB.drew).mono ?_
              rintro e w5 ⟨hg5, h5⟩
              rw [hq] at h5
              simp only [vRec] at h5
              obtain ⟨rfl, hB5⟩ := h5
              have hT5 := hT.drew.grown hg5 (by omega)
              have q5 := hT5.2.1.cell 0
              simp only [List.getElem?_toArray, List.getElem?_cons_zero] at q5
              have hbw5 : Below w.heap.size w w5 := (below_drew hbw).trans (below_of_grown hg5 (by omega) (by have := hbw.size; simpa using this))
              have how5 : w5.ownsRow (R + 1) 44 4 (.slice A8 k c8) k (rAll acc) := (own_drew how).kept hg5 hneK
              have hRdL := Rd.lit w5 #[.int .u32 (r.f : Nat), .int .i64 r.kind, .string r.key, .string r.val] 44 (rCells r) rfl
              have q6 := (hT5.alloc (.cells #[.int .u32 (r.f : Nat), .int .i64 r.kind, .string r.key, .string r.val] 44)).2.1.cell 0
              simp only [List.getElem?_toArray, List.getElem?_cons_zero] at q6
              have hsL : R + 1 ≤ (w5.alloc (.cells #[.int .u32 (r.f : Nat), .int .i64 r.kind, .string r.key, .string r.val] 44)).heap.size := by have := hB5.lt; simp; omega
              first
                | (refine hK _ _ ?_; clear hK K)
                | skip
              refine wpAny_ready (rs := [3]) (by kernel_rfl) (by simp) ?_
              refine AllReady.cons rfl (fun K hK => ?_) AllReady.nil
              go_simp
              refine hK _ _ ?_
              clear hK K
              refine wpAny_ready (rs := [4]) (by kernel_rfl) (by simp) ?_
              refine AllReady.cons rfl (fun K hK => ?_) AllReady.nil
              (refine step_append_rd _ (by rfl) (.tmp 46) (.tmp 49) _ (by rfl) (R + 1) 44 i0 _ 4 48 Try.underlying39 hi0 hz0 hz1 hz2 rfl hpos _ _ _ (by rfl) (how5.alloc _) _ (some ⟨w5.heap.size, 0, none⟩) 1 1 (rCells r) (by rfl) (by rfl) hRdL hone hml hby hsL ?_)
              intro vf wf hownf hgf hatf
              have hTf : Tri wf w.heap.size (.int .u64 (seq : Nat)) (.slice A8 k c8) (.int .i64 0) := (hT5.alloc _).ext_row hgf hneT
              obtain ⟨Af, cf, rfl, _⟩ := own_form hownf
              have t1 := hTf.1.cell 0
              have t2 := hTf.2.1.cell 0
              have t3 := hTf.2.2.cell 0
              have t4 := hTf.2.1.frozen 0
              simp only [List.getElem?_toArray, List.getElem?_cons_zero] at t1 t2 t3
              refine hK _ _ ?_
              clear hK K
              refine wpAny_ready (rs := [5]) (by kernel_rfl) (by simp) ?_
              refine AllReady.cons rfl (fun K hK => ?_) AllReady.nil
              go_simp
              refine hK _ _ ?_
              clear hK K
              refine wpAny_done (by kernel_rfl) ?_ _
              rw [← rAll_snoc] at hownf
              have hbwf : Below w.heap.size w wf := below_app' (hbw5.alloc (by have := hbw5.size; omega) _) (own_base (how5.alloc _) (by omega)) (by have := hbw5.size; simp; omega) hgf rfl
              have hBf : Brd wf R zs := by
                have hB6 := hB5.alloc (.cells #[.int .u32 (r.f : Nat), .int .i64 r.kind, .string r.key, .string r.val] 44)
                obtain ⟨A7, n7, c7, h7, h7'⟩ := hB6
                have hbR := below_app' ((Below.refl (R + 1) _)) (how5.alloc (.cells #[.int .u32 (r.f : Nat), .int .i64 r.kind, .string r.key, .string r.val] 44)) hsL hgf rfl
                exact ⟨A7, n7, c7, h7.below hbR (by omega), h7'.below (hbR.mono (by omega))⟩
              go_wp2
              go_roundw
              case rel => exact ⟨k + 1, acc ++ [r], .slice Af (k + 1) cf, zs, by omega, by go_num, by unfold Hid; rw [List.length_append, hlen.out]; rfl, hTf.q _, hBf.store (by omega) t2 _, own_far hownf (by omega) _, below_set hbwf (by omega), hprep2⟩
              case measure => simp [intOf]; omega
            · go_simp
              go_at_call 61
              refine (record_w R ys _ hB.drew).mono ?_
              rintro e w5 ⟨hg5, h5⟩
              rw [hq] at h5
              simp only [vRec] at h5
              obtain ⟨rfl, hB5⟩ := h5
              have hT5 := hT.drew.grown hg5 (by omega)
              have q5 := hT5.2.1.cell 0
              simp only [List.getElem?_toArray, List.getElem?_cons_zero] at q5
              have hbw5 : Below w.heap.size w w5 := (below_drew hbw).trans (below_of_grown hg5 (by omega) (by have := hbw.size; simpa using this))
              have how5 : w5.ownsRow (R + 1) 44 4 (.slice A8 k c8) k (rAll acc) := (own_drew how).kept hg5 hneK
              have hRdL := Rd.lit w5 #[.int .u32 (r.f : Nat), .int .i64 r.kind, .string r.key, .string r.val] 44 (rCells r) rfl
              have q6 := (hT5.alloc (.cells #[.int .u32 (r.f : Nat), .int .i64 r.kind, .string r.key, .string r.val] 44)).2.1.cell 0
              simp only [List.getElem?_toArray, List.getElem?_cons_zero] at q6
              have hsL : R + 1 ≤ (w5.alloc (.cells #[.int .u32 (r.f : Nat), .int .i64 r.kind, .string r.key, .string r.val] 44)).heap.size := by have := hB5.lt; simp; omega
              first
                | (refine hK _ _ ?_; clear hK K)
                | skip
              refine wpAny_ready (rs := [0, 3]) (by kernel_rfl) (by simp) ?_
              refine AllReady.cons rfl (fun K hK => ?_) (AllReady.cons rfl (fun K hK => ?_) AllReady.nil)
              · go_simp
                refine hK _ _ ?_
                clear hK K
                refine wpAny_ready (rs := [3]) (by kernel_rfl) (by simp) ?_
                refine AllReady.cons rfl (fun K hK => ?_) AllReady.nil
                go_simp
                refine hK _ _ ?_
                clear hK K
                refine wpAny_ready (rs := [4]) (by kernel_rfl) (by simp) ?_
                refine AllReady.cons rfl (fun K hK => ?_) AllReady.nil
                (refine step_append_rd _ (by rfl) (.tmp 46) (.tmp 49) _ (by rfl) (R + 1) 44 i0 _ 4 48 Try.underlying39 hi0 hz0 hz1 hz2 rfl hpos _ _ _ (by rfl) (how5.alloc _) _ (some ⟨w5.heap.size, 0, none⟩) 1 1 (rCells r) (by rfl) (by rfl) hRdL hone hml hby hsL ?_)
                intro vf wf hownf hgf hatf
                have hTf : Tri wf w.heap.size (.int .u64 (seq : Nat)) (.slice A8 k c8) (.int .i64 0) := (hT5.alloc _).ext_row hgf hneT
                obtain ⟨Af, cf, rfl, _⟩ := own_form hownf
                have t1 := hTf.1.cell 0
                have t2 := hTf.2.1.cell 0
                have t3 := hTf.2.2.cell 0
                have t4 := hTf.2.1.frozen 0
                simp only [List.getElem?_toArray, List.getElem?_cons_zero] at t1 t2 t3
                refine hK _ _ ?_
                clear hK K
                refine wpAny_ready (rs := [5]) (by kernel_rfl) (by simp) ?_
                refine AllReady.cons rfl (fun K hK => ?_) AllReady.nil
                go_simp
                refine hK _ _ ?_
                clear hK K
                refine wpAny_done (by kernel_rfl) ?_ _
                rw [← rAll_snoc] at hownf
                have hbwf : Below w.heap.size w wf := below_app' (hbw5.alloc (by have := hbw5.size; omega) _) (own_base (how5.alloc _) (by omega)) (by have := hbw5.size; simp; omega) hgf rfl
                have hBf : Brd wf R zs := by
                  have hB6 := hB5.alloc (.cells #[.int .u32 (r.f : Nat), .int .i64 r.kind, .string r.key, .string r.val] 44)
                  obtain ⟨A7, n7, c7, h7, h7'⟩ := hB6
                  have hbR := below_app' ((Below.refl (R + 1) _)) (how5.alloc (.cells #[.int .u32 (r.f : Nat), .int .i64 r.kind, .string r.key, .string r.val] 44)) hsL hgf rfl
                  exact ⟨A7, n7, c7, h7.below hbR (by omega), h7'.below (hbR.mono (by omega))⟩
                go_wp2
                go_roundw
                case rel => exact ⟨k + 1, acc ++ [r], .slice Af (k + 1) cf, zs, by omega, by go_num, by unfold Hid; rw [List.length_append, hlen.out]; rfl, hTf.q _, hBf.store (by omega) t2 _, own_far hownf (by omega) _, below_set hbwf (by omega), hprep2⟩
                case measure => simp [intOf]; omega
              · go_simp
                refine hK _ _ ?_
                clear hK K
                refine wpAny_ready (rs := [0]) (by kernel_rfl) (by simp) ?_
                refine AllReady.cons rfl (fun K hK => ?_) AllReady.nil
                go_simp
                refine hK _ _ ?_
                clear hK K
                refine wpAny_ready (rs := [4]) (by kernel_rfl) (by simp) ?_
                refine AllReady.cons rfl (fun K hK => ?_) AllReady.nil
                (refine step_append_rd _ (by rfl) (.tmp 46) (.tmp 49) _ (by rfl) (R + 1) 44 i0 _ 4 48 Try.underlying39 hi0 hz0 hz1 hz2 rfl hpos _ _ _ (by rfl) (how5.alloc _) _ (some ⟨w5.heap.size, 0, none⟩) 1 1 (rCells r) (by rfl) (by rfl) hRdL hone hml hby hsL ?_)
                intro vf wf hownf hgf hatf
                have hTf : Tri wf w.heap.size (.int .u64 (seq : Nat)) (.slice A8 k c8) (.int .i64 0) := (hT5.alloc _).ext_row hgf hneT
                obtain ⟨Af, cf, rfl, _⟩ := own_form hownf
                have t1 := hTf.1.cell 0
                have t2 := hTf.2.1.cell 0
                have t3 := hTf.2.2.cell 0
                have t4 := hTf.2.1.frozen 0
                simp only [List.getElem?_toArray, List.getElem?_cons_zero] at t1 t2 t3
                refine hK _ _ ?_
                clear hK K
                refine wpAny_ready (rs := [5]) (by kernel_rfl) (by simp) ?_
                refine AllReady.cons rfl (fun K hK => ?_) AllReady.nil
                go_simp
                refine hK _ _ ?_
                clear hK K
                refine wpAny_done (by kernel_rfl) ?_ _
                rw [← rAll_snoc] at hownf
                have hbwf : Below w.heap.size w wf := below_app' (hbw5.alloc (by have := hbw5.size; omega) _) (own_base (how5.alloc _) (by omega)) (by have := hbw5.size; simp; omega) hgf rfl
                have hBf : Brd wf R zs := by
                  have hB6 := hB5.alloc (.cells #[.int .u32 (r.f : Nat), .int .i64 r.kind, .string r.key, .string r.val] 44)
                  obtain ⟨A7, n7, c7, h7, h7'⟩ := hB6
                  have hbR := below_app' ((Below.refl (R + 1) _)) (how5.alloc (.cells #[.int .u32 (r.f : Nat), .int .i64 r.kind, .string r.key, .string r.val] 44)) hsL hgf rfl
                  exact ⟨A7, n7, c7, h7.below hbR (by omega), h7'.below (hbR.mono (by omega))⟩
                go_wp2
                go_roundw
                case rel => exact ⟨k + 1, acc ++ [r], .slice Af (k + 1) cf, zs, by omega, by go_num, by unfold Hid; rw [List.length_append, hlen.out]; rfl, hTf.q _, hBf.store (by omega) t2 _, own_far hownf (by omega) _, below_set hbwf (by omega), hprep2⟩
                case measure => simp [intOf]; omega
      · obtain rfl : k = m := by omega
        have hpr : Hid (rdAll k (xs.drop 12) = .ok (acc, ys)) := by
          have := hprep.out
          rw [Nat.sub_self] at this
          unfold Hid
          rw [this]
          simp [rdAll, prep]
        rw [hpr.out] at hpost
        clear hprep
        obtain ⟨A9, n9, c9, hBk, hBs⟩ := hB
        obtain ⟨A8, c8, rfl, _⟩ := own_form how
        have sq2 := (hT.p (.int .u64 (seq : Nat))).2.1.cell 0
        simp only [List.getElem?_toArray, List.getElem?_cons_zero] at sq2
        have hl9 := hBs.len
        have b0 := hBk.cell 0
        simp only [List.getElem?_toArray, List.getElem?_cons_zero] at b0
        by_cases hy : 0 < n9
        · have dy : decide ((n9 : Int) > 0) = true := by simp; omega
          have hpf : Hid (decode xs = .error 5) := by unfold Hid; rw [hpost.out]; simp only; rw [if_pos (by omega)]
          go_wp2
          refine door_tri (G := w.heap.size) rfl rfl rfl (((hT.p _).q _).r _) ⟨?_, ?_⟩
          · repeat (first | exact hbw | refine below_set ?_ (by omega))
          · rw [hpf.out]
            rfl
        · have dy : decide ((n9 : Int) > 0) = false := by simp; omega
          have hpf : Hid (decode xs = .ok (seq, acc)) := by unfold Hid; rw [hpost.out]; simp only; rw [if_neg (by omega)]
          go_wp2_with fail
          go_region
          all_goals go_wp2
          all_goals refine door_tri (G := w.heap.size) rfl rfl rfl (((hT.p _).q _).r _).drew ⟨?_, ?_⟩
          · refine below_drew ?_
            repeat (first | exact hbw | refine below_set ?_ (by omega))
          · rw [hpf.out]
            exact ⟨_, rfl, by rw [hlen.out]; exact own_drew (own_base (own_far (own_far (own_far how (by omega) _) (by omega) _) (by omega) _) (by omega))⟩
end Go.Proofs.Ytonhhbebpcaaeaa
