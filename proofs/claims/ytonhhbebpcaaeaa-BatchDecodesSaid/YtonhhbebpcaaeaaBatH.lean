/- The walk of the reference's Encode. -/
import Derived.Test.YtonhhbebpcaaeaaBatG
namespace Go.Proofs.Ytonhhbebpcaaeaa
open Go.RowKit

theorem step_append_string {P : Program} {ops : Array Oper} {o : Oper} {a : Act} {K : Act → World → Prop} {Q : Exit → Act → World → Prop} {E : Prop} (w : World) (hgd : o.guard = none) (sl x : Operand) (t u : TypeId)
    (ho : o.op = .call { callee := .builtin .append, args := #[sl, x], argTypes := #[t, u] })
    (base : Nat) (e : TypeId) (i : TypeInfo) (ht : P.underlying t = some (.slice e)) (hu : P.underlying u = some .string) (hi : P.info? e = some i) (hz : i.zero = some (.int .u8 0))
    (hsize : i.size = 1) (hby : i.bytes = 1)
    (v : Value) (n : Nat) (xs : List Value) (hs : a.eval sl = v) (hown : w.ownsRow base e 1 v n xs) (s : ByteArray) (hx : a.eval x = .string s)
    (h63 : n + s.size ≤ maxLen) (hbytes : n + s.size ≤ 140737488355328) (hbase : base ≤ w.heap.size)
    (h : ∀ v' w', w'.ownsRow base e 1 v' (n + s.size) (xs ++ (strB s).map eB) → w.grownBy w' v.ownBlock → K (a.put o.dst v') w') :
    if Region.wanted o (yielded ops a.tmps) = true then Oper.wp P o a w K Q else E := by
  have hw : Region.wanted o (yielded ops a.tmps) = true := by simp [Region.wanted, hgd]
  rw [if_pos hw]
  obtain ⟨v', w', hr, h2, h3, h4⟩ := Lib.run_append_own_string (P := P) w base t u o.type e i ht hu hi hz hsize hby v n xs hown s h63 hbytes hbase
  unfold Oper.wp execOp
  simp only [ho, resolve, invoke, builtin, Sem.run_bind, Sem.run_pure, Result.andThen_ok, List.map_toArray, List.map_cons, List.map_nil, hs, hx, hr]
  exact h v' w' h2 h3

theorem ne_block {w : World} {X : Nat} {t : TypeId} {cs : Array Value} {v v' : Value} (hB : Blk w X t cs) (hne : some X ≠ v.ownBlock) (hat : v'.ownBlock = v.ownBlock ∨ v'.ownBlock = some w.heap.size) : some X ≠ v'.ownBlock := by
  have := hB.lt
  rcases hat with h | h <;> rw [h]
  · exact hne
  · simp; omega
theorem ne_types {w : World} {X : Nat} {t : TypeId} {cs : Array Value} {b : Nat} {e : TypeId} {sz : Nat} {v : Value} {n : Nat} {xs : List Value} (hB : Blk w X t cs) (how : w.ownsRow b e sz v n xs) (hne : t ≠ e) : some X ≠ v.ownBlock := by
  rcases how.2 with ⟨rfl, _⟩ | ⟨g, cap, cur, rfl, _, hh, _⟩
  · simp [Value.ownBlock]
  · intro h
    simp only [Value.ownBlock, Option.some.injEq] at h
    subst h
    unfold Blk at hB
    rw [hB] at hh
    simp at hh
    exact hne hh.2
theorem Rd.drew {w : World} {B : Nat} {A : Option Addr} {vs : List Value} (h : Rd w B A vs) : Rd w.drew B A vs := h
theorem below_drew {B : Nat} {a w : World} (h : Below B a w) : Below B a w.drew := ⟨h.os, h.tape, h.output, h.size, h.block⟩

theorem refEncode_arg (seq : Nat) (hs : seq < 18446744073709551616) (A : Option Addr) (n c : Nat) (rs : List Rec) (w : World) (h : Rsl w w.heap.size A n c rs) (hf : fitsOf seq n = false) :
    Calls Try.prog 17 #[.int .u64 seq, .slice A n c] w (EncPost w seq rs) := by
  have hl := h.len
  have hfew := h.few
  have he : Hid (encErr seq rs = 1) := by unfold Hid encErr; rw [hl, if_pos hf]
  have hft := fun w => numbered_w seq n hs (by unfold maxB; omega) w
  go_enter Try.func17, Try.ntmps17
  go_wp2_with (go_at_call 50; refine (hft _).mono ?_; rintro e w1 ⟨rfl, rfl⟩; rw [hf])
  go_ret2
  exact ⟨.slice none 0 0, by rw [he.out]; rfl, fun h0 => by rw [he.out] at h0; omega, fun _ => rfl, Below.refl _ _⟩
theorem refEncode_long (seq : Nat) (hs : seq < 18446744073709551616) (A : Option Addr) (n c : Nat) (rs : List Rec) (w : World) (h : Rsl w w.heap.size A n c rs) (hf : fitsOf seq n = true) (hn : 4096 < n) :
    Calls Try.prog 17 #[.int .u64 seq, .slice A n c] w (EncPost w seq rs) := by
  have hl := h.len
  have hfew := h.few
  have he : Hid (encErr seq rs = 2) := by unfold Hid encErr; rw [hl, if_neg (by simp [hf]), if_pos hn]
  have hft := fun w => numbered_w seq n hs (by unfold maxB; omega) w
  have hd : decide ((n : Int) > 4096) = true := by simp; omega
  go_enter Try.func17, Try.ntmps17
  go_wp2_with (go_at_call 50; refine (hft _).mono ?_; rintro e w1 ⟨rfl, rfl⟩; rw [hf])
  go_ret2
  exact ⟨.slice none 0 0, by rw [he.out]; rfl, fun h0 => by rw [he.out] at h0; omega, fun _ => rfl, Below.refl _ _⟩

set_option maxRecDepth 100000 in
set_option maxHeartbeats 4000000 in
theorem refEncode_main (seq : Nat) (hs : seq < 18446744073709551616) (A : Option Addr) (n c : Nat) (rs : List Rec) (w : World) (h : Rsl w w.heap.size A n c rs) (hf : fitsOf seq n = true) (hn : n ≤ 4096) :
    Calls Try.prog 17 #[.int .u64 seq, .slice A n c] w (EncPost w seq rs) := by
  obtain ⟨i0, hi0, hz0, hz1, hz2⟩ := info_parts info_byte
  have hl := h.len
  have hcap := h.cap
  have hbig := h.big
  unfold maxLen at hbig
  have he : Hid (encErr seq rs = if firstBad rs ≠ 0 then firstBad rs else if 4194304 < 12 + sizesOf rs then 2 else 0) := by unfold Hid encErr; rw [hl, if_neg (by simp [hf]), if_neg (by omega)]
  have hft := fun w => numbered_w seq n hs (by unfold maxB; omega) w
  have hd : decide ((n : Int) > 4096) = false := by simp; omega
  have h8 := fun w => refFixed_w seq 8 (by omega) w
  have h4 := fun w => refFixed_w n 4 (by omega) w
  generalize hG : w.heap.size = G at *
  have hG2 := hide hG
  clear hG
  go_enter Try.func17, Try.ntmps17
  go_wp2_with (go_at_call 50; refine (hft _).mono ?_; rintro e w0 ⟨rfl, hw0⟩; have hw0 := hw0.symm; subst hw0; rw [hf])
  clear hft
  go_loopw [6, 7] (fun i _ wr => ∃ (k : Nat), k ≤ n ∧ i = .int .i64 k ∧ Below G w wr ∧ (∀ r ∈ rs.take k, checkOf r = 0)) (fun i _ _ => n - (intOf i).toNat)
  case atStart => exact ⟨0, by omega, rfl, Below.refl _ _, fun r hr => by simp at hr⟩
  case round =>
    obtain ⟨k, hk, rfl, hbw, hck⟩ := hrel
    have hG' := hG2.out
    have hsz : G ≤ wr.heap.size := by have := hbw.size; omega
    by_cases hlt : k < n
    · obtain ⟨g, o, r, rfl, hg, hr, hok, c0, c1, c2, c3⟩ := (h.below hbw).at_ hlt
      by_cases hc : checkOf r = 0
      · have hchk : ∀ w : World, Calls Try.prog 19 #[vRec r] w fun e w' => e = .returned (.int .i64 0) ∧ Below w.heap.size w w' := fun w => by have := refCheck_w r hok w; rw [hc] at this; exact this
        have hck2 : ∀ x ∈ rs.take (k + 1), checkOf x = 0 := fun x hx => by
          rw [take_snoc hr, List.mem_append] at hx
          rcases hx with hx | hx
          · exact hck x hx
          · simp at hx; subst hx; exact hc
        clear hck he
        go_wp2_with (go_at_call 19; refine (hchk _).mono ?_; rintro e w5 ⟨rfl, hb5⟩)
        go_roundw
        case rel => exact ⟨k + 1, by omega, by first | rfl | go_num, hbw.trans (hb5.mono hsz), hck2⟩
        case measure => simp [intOf]; omega
      · have hchk := fun w => refCheck_w r hok w
        have hfb := hide (firstBad_take rs k r hr hc hck)
        have hd2 : ((checkOf r : Int) != 0) = true := by simp; omega
        have hc3 := hide hc
        clear hc hck
        generalize checkOf r = cc at *
        go_wp2_with (go_at_call 19; refine (hchk _).mono ?_; rintro e w5 ⟨rfl, hb5⟩)
        go_ret2
        have hee : encErr seq rs = cc := by rw [he.out, hfb.out, if_pos hc3.out]
        exact ⟨.slice none 0 0, by rw [hee]; rfl, fun h0 => absurd (hee.symm.trans h0) hc3.out, fun _ => rfl, by rw [hG']; exact hbw.trans (hb5.mono hsz)⟩
    · obtain rfl : k = n := by omega
      rw [List.take_of_length_le (by omega)] at hck
      have hfb := hide (firstBad_none rs hck)
      have hszs := fun w h => sizes_w A k c rs w h hck hn
      have hsle := sizesOf_le rs h.ok hck
      by_cases hlim : 4194304 < 12 + sizesOf rs
      · have hee : Hid (encErr seq rs = 2) := by unfold Hid; rw [he.out, hfb.out, if_neg (by simp), if_pos hlim]
        clear he hck
        have hd2 : decide (((12 + sizesOf rs : Nat) : Int) > 4194304) = true := by simp; omega
        generalize sizesOf rs = S at *
        go_wp2_with (go_at_call 51; refine (hszs _ ((h.below hbw).more hsz)).mono ?_; rintro e w5 ⟨rfl, hb5⟩)
        go_ret2
        exact ⟨.slice none 0 0, by rw [hee.out]; rfl, fun h0 => by rw [hee.out] at h0; omega, fun _ => rfl, by rw [hG']; exact hbw.trans (hb5.mono hsz)⟩
      · have hee : Hid (encErr seq rs = 0) := by unfold Hid; rw [he.out, hfb.out, if_neg (by simp), if_neg hlim]
        have hd2 : decide (((12 + sizesOf rs : Nat) : Int) > 4194304) = false := by simp; omega
        have hencB : Hid (encB seq rs = (leBytes seq 8 ++ leBytes k 4) ++ rs.flatMap recB) := by unfold Hid encB; rw [hl]
        have hS : Hid ((rs.flatMap recB).length = sizesOf rs) := sizesOf_flat rs
        clear he
        generalize sizesOf rs = S at *
        go_wp2_with (first
          | (go_at_call 51; refine (hszs _ ((h.below hbw).more hsz)).mono ?_; rintro e w5 ⟨rfl, hb5⟩; have hs5 : G ≤ w5.heap.size := by have := hb5.size; omega)
          | (have _h := hs6; go_at_call 52; refine (h4 _).mono ?_; rintro e w7 ⟨v7, rfl, hown7, hb7⟩; obtain ⟨A7, c7, rfl, _⟩ := own_form hown7; have hs7 : G ≤ w7.heap.size := by have := hb7.size; omega)
          | (go_at_call 52; refine (h8 _).mono ?_; rintro e w6 ⟨v6, rfl, hown6, hb6⟩; obtain ⟨A6, c6, rfl, _⟩ := own_form hown6; have hs6 : G ≤ w6.heap.size := by have := hb6.size; omega)
          | (at_builtin; refine wpList_append_rd _ rfl (.tmp 37) (.tmp 41) _ rfl G 5 i0 _ 1 1 Try.underlying22 hi0 hz0 hz1 hz2 rfl (by decide) _ _ _ rfl (own_base (own_below' hown6 hb7) hs5) w7.heap.size A7 4 c7 ((leBytes k 4).map eB) rfl (by simp [leBytes_len]) (Rd.of_own hown7) (eB_one _) (by unfold maxLen; omega) (by omega) hs7 ?_; intro v8 w8 hown8 hg8 _))
        have hs8 := hg8.size
        have hbw8 := below_app' (hbw.trans ((hb5.mono hsz).trans ((hb6.mono hs5).trans (hb7.mono hs6)))) (own_base (own_below' hown6 hb7) hs5) hs7 hg8 rfl
        rw [← List.map_append] at hown8
        have hacc0 : Hid ((leBytes seq 8 ++ leBytes k 4).length = 12) := by unfold Hid; simp [leBytes_len]
        clear hown6 hown7 hg8 hb5 hb6 hb7 hfb hd2 hszs
        generalize leBytes seq 8 ++ leBytes k 4 = hd0 at *
        go_wp2_with fail
        go_loopw [8, 9, 10] (fun v i _ wr => ∃ (j : Nat) (acc : List UInt8), j ≤ k ∧ i = .int .i64 j ∧ Below G w wr ∧ wr.ownsRow G 5 1 v acc.length (acc.map eB) ∧ acc.length + ((rs.drop j).flatMap recB).length = 12 + S ∧ Hid (acc = hd0 ++ (rs.take j).flatMap recB)) (fun _ i _ _ => k - (intOf i).toNat)
        case atStart => exact ⟨0, hd0, by omega, rfl, hbw8, by rw [hacc0.out]; exact hown8, by rw [hacc0.out, List.drop_zero, hS.out], by unfold Hid; simp⟩
        case round =>
          obtain ⟨j, acc, hj, rfl, hbw, how, hrest, hacc⟩ := hrel
          have hszr : G ≤ wr.heap.size := by have := hbw.size; omega
          by_cases hlt2 : j < k
          · obtain ⟨g, o, r, rfl, hg, hr, hok, c0, c1, c2, c3⟩ := (h.below hbw).at_ hlt2
            have hcr := hck r (List.mem_of_getElem? hr)
            obtain ⟨hkk, hkey, hval⟩ := check_in hcr
            have hdrop : ((rs.drop j).flatMap recB).length = (recB r).length + ((rs.drop (j + 1)).flatMap recB).length := by
              rw [List.drop_eq_getElem?_toList_append, hr]
              simp
            have hrl := recB_len r
            have hrf := hok.f
            have hacc2 : Hid (hd0 ++ (rs.take (j + 1)).flatMap recB = acc ++ recB r) := by unfold Hid; rw [take_snoc hr, hacc.out]; simp
            rw [hdrop] at hrest
            clear hdrop hacc hck
            obtain ⟨A4, c4, rfl, _⟩ := own_form how
            have hBx := Blk.new wr 44 #[.int .u32 (r.f : Nat), .int .i64 r.kind, .string r.key, .string r.val]
            have hbx : Below G w (wr.alloc (.cells #[.int .u32 (r.f : Nat), .int .i64 r.kind, .string r.key, .string r.val] 44)) := hbw.alloc hszr _
            have hpos : 0 < 1 := by omega
            have hvf0 := varB_le10 (n := r.f) (by omega)
            have hvf : ∀ w : World, Calls Try.prog 53 #[.int .u64 (IntKind.u64.wrap (r.f : Int))] w fun e w' => ∃ v, e = .returned v ∧ w'.ownsRow w.heap.size 5 1 v (varB r.f).length ((varB r.f).map eB) ∧ Below w.heap.size w w' := fun w => by rw [show IntKind.u64.wrap (r.f : Int) = r.f by rw [wrap64]; omega]; exact refVarint_w r.f (by omega) w
            have hX1 : (wr.alloc (.cells #[.int .u32 (r.f : Nat), .int .i64 r.kind, .string r.key, .string r.val] 44)).heap.size = wr.heap.size + 1 := by simp
            have hRdL := Rd.of_own (World.ownsRow_lit (wr.alloc (.cells #[.int .u32 (r.f : Nat), .int .i64 r.kind, .string r.key, .string r.val] 44)) (e := 5) (size := 1) (base := G) #[.int .u8 (IntKind.u8.wrap r.kind)] 1 (by rw [hX1]; omega) (by unfold maxLen; omega) (by simp))
            rw [hX1] at hRdL
            have hownA := (how.alloc (.cells #[.int .u32 (r.f : Nat), .int .i64 r.kind, .string r.key, .string r.val] 44)).alloc (.cells #[.int .u8 (IntKind.u8.wrap r.kind)] 5)
            have hneX : some wr.heap.size ≠ (Value.slice A4 acc.length c4).ownBlock := fun e => by have := how.lt _ e.symm; omega
            go_wp2_with fail
            have hlen18 : ((varB r.f).map eB).length = (varB r.f).length * 1 := by simp
            have hone : ∀ u ∈ [(.int .u8 (IntKind.u8.wrap r.kind) : Value)], u.oneCell' = true := by simp [Value.oneCell']
            have hml18 : acc.length + 1 ≤ maxLen := by unfold maxLen; omega
            have hby18 : (acc.length + 1) * 1 ≤ 140737488355328 := by omega
            have hml19 : acc.length + 1 + (varB r.f).length ≤ maxLen := by unfold maxLen; omega
            have hby19 : (acc.length + 1 + (varB r.f).length) * 1 ≤ 140737488355328 := by omega
            have hsL : G ≤ ((wr.alloc (.cells #[.int .u32 (r.f : Nat), .int .i64 r.kind, .string r.key, .string r.val] 44)).alloc (.cells #[.int .u8 (IntKind.u8.wrap r.kind)] 5)).drew.heap.size := by simp; omega
            have hbL : Below G w ((wr.alloc (.cells #[.int .u32 (r.f : Nat), .int .i64 r.kind, .string r.key, .string r.val] 44)).alloc (.cells #[.int .u8 (IntKind.u8.wrap r.kind)] 5)).drew := below_drew (hbx.alloc (by rw [hX1]; omega) _)
            have hBL : Blk ((wr.alloc (.cells #[.int .u32 (r.f : Nat), .int .i64 r.kind, .string r.key, .string r.val] 44)).alloc (.cells #[.int .u8 (IntKind.u8.wrap r.kind)] 5)).drew wr.heap.size 44 #[.int .u32 (r.f : Nat), .int .i64 r.kind, .string r.key, .string r.val] := hBx.alloc _
            go_region_held3 (fun w' => w'.cell? ⟨wr.heap.size, 0, none⟩ = some (.int .u32 r.f) ∧ w'.cell? ⟨wr.heap.size, 1, none⟩ = some (.int .i64 r.kind))
              ((refine ⟨cell_of_blk (t := 44) (cs := #[.int .u32 (r.f : Nat), .int .i64 r.kind, .string r.key, .string r.val]) ?_ rfl, cell_of_blk (t := 44) (cs := #[.int .u32 (r.f : Nat), .int .i64 r.kind, .string r.key, .string r.val]) ?_ rfl⟩ <;> (repeat (with_reducible first | assumption | refine Blk.drew ?_ | refine Blk.alloc ?_ _))))
              ((first
                | (have _h := hB10
                   (refine step_append_rd _ (by rfl) (.tmp 58) (.tmp 62) _ (by rfl) G 5 i0 _ 1 1 Try.underlying22 hi0 hz0 hz1 hz2 rfl hpos _ _ _ (by rfl) hown9' _ A10 (varB r.f).length c10 ((varB r.f).map eB) (by rfl) hlen18 hRd10 (eB_one _) hml19 hby19 hs10 ?_)
                   intro v11 w11 hown11 hg11 hat11
                   have hbw11 := below_app' hbw10 hown9' hs10 hg11 rfl
                   have hB11 := Blk.grown hB10 hg11 hne9
                   have hs11 : G ≤ w11.heap.size := by have := hg11.size; omega
                   have hne11 : some wr.heap.size ≠ v11.ownBlock := ne_block hB10 hne9 hat11)
                | (have _h := hB9
                   go_at_call 53
                   refine (hvf _).mono ?_
                   rintro e w10 ⟨v10, rfl, hown10, hb10⟩
                   obtain ⟨A10, c10, rfl, _⟩ := own_form hown10
                   have hB10 := Blk.ext hB9 hb10
                   have hbw10 := hbw9.trans (hb10.mono hs9)
                   have hs10 : G ≤ w10.heap.size := by have := hb10.size; omega
                   have hRd10 := Rd.of_own hown10
                   have hown9' := own_below' hown9 hb10)
                | ((refine step_append_rd _ (by rfl) (.tmp 53) (.tmp 57) _ (by rfl) G 5 i0 _ 1 1 Try.underlying22 hi0 hz0 hz1 hz2 rfl hpos _ _ _ (by rfl) (own_drew hownA) _ (some ⟨wr.heap.size + 1, 0, none⟩) 1 1 [.int .u8 (IntKind.u8.wrap r.kind)] (by rfl) (by rfl) hRdL.drew hone hml18 hby18 hsL ?_)
                   intro v9 w9 hown9 hg9 hat9
                   have hbw9 := below_app' hbL (own_drew hownA) hsL hg9 rfl
                   have hB9 := Blk.grown hBL hg9 hneX
                   have hs9 : G ≤ w9.heap.size := by have := hg9.size; omega
                   have hne9 : some wr.heap.size ≠ v9.ownBlock := ne_block hBL hneX hat9)))
            have hacc18 : acc.map eB ++ [(.int .u8 (IntKind.u8.wrap r.kind) : Value)] ++ (varB r.f).map eB = (acc ++ (UInt8.ofNat (r.kind % 256).toNat :: varB r.f)).map eB := by
              have : eB (UInt8.ofNat (r.kind % 256).toNat) = .int .u8 (IntKind.u8.wrap r.kind) := by
                rw [IntKind.wrap_u8']
                simp only [eB, UInt8.toNat_ofNat']
                congr 1
                omega
              simp [this]
            rw [hacc18] at hown11
            generalize hL18 : acc.length + 1 + (varB r.f).length = L18 at *
            clear hvf hRdL hownA hX1 hlen18 hone hml18 hby18 hml19 hby19 hsL hbL hBL hown9 hown9' hg9 hg11 hRd10 hown10 hacc18
            have hL18' : L18 ≤ 4300000 := by omega
            go_wp2_with fail
            have hvtk := varB_le10 (n := r.key.size) (by omega)
            have hvck : ∀ w : World, Calls Try.prog 53 #[.int .u64 (IntKind.u64.wrap (r.key.size : Int))] w fun e w' => ∃ v, e = .returned v ∧ w'.ownsRow w.heap.size 5 1 v (varB r.key.size).length ((varB r.key.size).map eB) ∧ Below w.heap.size w w' := fun w => by rw [show IntKind.u64.wrap (r.key.size : Int) = r.key.size by rw [wrap64]; omega]; exact refVarint_w r.key.size (by omega) w
            have hlenk : ((varB r.key.size).map eB).length = (varB r.key.size).length * 1 := by simp
            have hmlk : L18 + (varB r.key.size).length ≤ maxLen := by unfold maxLen; omega
            have hbyk : (L18 + (varB r.key.size).length) * 1 ≤ 140737488355328 := by omega
            have hmtk : L18 + (varB r.key.size).length + r.key.size ≤ maxLen := by unfold maxLen; omega
            have hbtk : L18 + (varB r.key.size).length + r.key.size ≤ 140737488355328 := by omega
            go_region_held3 (fun w' => w'.cell? ⟨wr.heap.size, 2, none⟩ = some (.string r.key))
              ((refine cell_of_blk (t := 44) (cs := #[.int .u32 (r.f : Nat), .int .i64 r.kind, .string r.key, .string r.val]) ?_ rfl <;> (repeat (with_reducible first | assumption | refine Blk.drew ?_ | refine Blk.alloc ?_ _))))
              ((first
                | (have _h := hBbk
                   (refine step_append_string _ (by rfl) (.tmp 70) (.tmp 72) _ _ (by rfl) G 5 i0 Try.underlying22 Try.underlying9 hi0 hz0 hz1 hz2 _ _ _ (by rfl) hownbk r.key (by rfl) hmtk hbtk hsbk ?_)
                   intro vck wck hownck hgck
                   have hbwck := below_app' hbwbk hownbk hsbk hgck rfl
                   have hsck : G ≤ wck.heap.size := by have := hgck.size; omega
                   have hBck := Blk.grown hBbk hgck hnebk)
                | (have _h := hBak
                   (refine step_append_rd _ (by rfl) (.tmp 64) (.tmp 69) _ (by rfl) G 5 i0 _ 1 1 Try.underlying22 hi0 hz0 hz1 hz2 rfl hpos _ _ _ (by rfl) hownvk _ Aak (varB r.key.size).length cak ((varB r.key.size).map eB) (by rfl) hlenk hRdk (eB_one _) hmlk hbyk hsak ?_)
                   intro vbk wbk hownbk hgbk hatbk
                   have hbwbk := below_app' hbwak hownvk hsak hgbk rfl
                   have hBbk := Blk.grown hBak hgbk hne11
                   have hsbk : G ≤ wbk.heap.size := by have := hgbk.size; omega
                   have hnebk : some wr.heap.size ≠ vbk.ownBlock := ne_block hBak hne11 hatbk)
                | (go_at_call 53
                   refine (hvck _).mono ?_
                   rintro e wak ⟨vak, rfl, hownak, hbak⟩
                   obtain ⟨Aak, cak, rfl, _⟩ := own_form hownak
                   have hBak : Blk wak wr.heap.size 44 #[.int .u32 (r.f : Nat), .int .i64 r.kind, .string r.key, .string r.val] := Blk.ext (by repeat (with_reducible first | assumption | refine Blk.drew ?_ | refine Blk.alloc ?_ _)) hbak
                   have hbwak : Below G w wak := below_thru hbw11 hbak hs11
                   have hsak : G ≤ wak.heap.size := Nat.le_trans hs11 (by simpa using hbak.size)
                   have hRdk := Rd.of_own hownak
                   have hownvk := own_below_d hown11 hbak)))
            have hacck : (acc ++ (UInt8.ofNat (r.kind % 256).toNat :: varB r.f)).map eB ++ (varB r.key.size).map eB ++ (strB r.key).map eB = (acc ++ (UInt8.ofNat (r.kind % 256).toNat :: varB r.f) ++ textB r.key).map eB := by simp [textB]
            have hlk : L18 + (varB r.key.size).length + r.key.size = (acc ++ (UInt8.ofNat (r.kind % 256).toNat :: varB r.f) ++ textB r.key).length := by rw [← hL18]; simp [textB, strB_len]; omega
            rw [hacck, hlk] at hownck
            have hneck := ne_types hBck hownck (by decide)
            clear hacck hlk hownbk hgbk hgck hownvk hRdk hownak hbak hvck hlenk hmlk hbyk hmtk hbtk hown11
            have ck1 := hBck.cell 1
            simp only [List.getElem?_toArray, List.getElem?_cons_succ, List.getElem?_cons_zero] at ck1
            have hLk : (acc ++ (UInt8.ofNat (r.kind % 256).toNat :: varB r.f) ++ textB r.key).length ≤ 4300000 := by
              rw [List.length_append, List.length_append, List.length_cons]
              omega
            by_cases h0 : r.kind = 0
            · have hdk : (r.kind != 0) = false := by rw [h0]; rfl
              have hrow : acc ++ (UInt8.ofNat (r.kind % 256).toNat :: varB r.f) ++ textB r.key = acc ++ recB r := by unfold recB; rw [if_pos h0]; simp
              rw [hrow] at hownck
              clear h0
              go_wp2
              go_roundw
              case rel => exact ⟨j + 1, acc ++ recB r, by omega, by go_num, hbwck, hownck, by rw [List.length_append]; omega, hide hacc2.out.symm⟩
              case measure => simp [intOf]; omega
            · have hdk : (r.kind != 0) = true := by simp; omega
              have hval := hval h0
              have hrow : Hid (acc ++ (UInt8.ofNat (r.kind % 256).toNat :: varB r.f) ++ textB r.key ++ textB r.val = acc ++ recB r) := by unfold Hid recB; rw [if_neg h0]; simp
              generalize acc ++ (UInt8.ofNat (r.kind % 256).toNat :: varB r.f) ++ textB r.key = acck at *
              go_wp2_with fail
              have hvtv := varB_le10 (n := r.val.size) (by omega)
              have hvcv : ∀ w : World, Calls Try.prog 53 #[.int .u64 (IntKind.u64.wrap (r.val.size : Int))] w fun e w' => ∃ v, e = .returned v ∧ w'.ownsRow w.heap.size 5 1 v (varB r.val.size).length ((varB r.val.size).map eB) ∧ Below w.heap.size w w' := fun w => by rw [show IntKind.u64.wrap (r.val.size : Int) = r.val.size by rw [wrap64]; omega]; exact refVarint_w r.val.size (by omega) w
              have hlenv : ((varB r.val.size).map eB).length = (varB r.val.size).length * 1 := by simp
              have hmlv : acck.length + (varB r.val.size).length ≤ maxLen := by unfold maxLen; omega
              have hbyv : (acck.length + (varB r.val.size).length) * 1 ≤ 140737488355328 := by omega
              have hmtv : acck.length + (varB r.val.size).length + r.val.size ≤ maxLen := by unfold maxLen; omega
              have hbtv : acck.length + (varB r.val.size).length + r.val.size ≤ 140737488355328 := by omega
              go_region_held3 (fun w' => w'.cell? ⟨wr.heap.size, 3, none⟩ = some (.string r.val))
                ((refine cell_of_blk (t := 44) (cs := #[.int .u32 (r.f : Nat), .int .i64 r.kind, .string r.key, .string r.val]) ?_ rfl <;> (repeat (with_reducible first | assumption | refine Blk.drew ?_ | refine Blk.alloc ?_ _))))
                ((first
                  | (have _h := hBbv
                     (refine step_append_string _ (by rfl) (.tmp 83) (.tmp 85) _ _ (by rfl) G 5 i0 Try.underlying22 Try.underlying9 hi0 hz0 hz1 hz2 _ _ _ (by rfl) hownbv r.val (by rfl) hmtv hbtv hsbv ?_)
                     intro vcv wcv howncv hgcv
                     have hbwcv := below_app' hbwbv hownbv hsbv hgcv rfl
                     have hscv : G ≤ wcv.heap.size := by have := hgcv.size; omega
                     have hBcv := Blk.grown hBbv hgcv hnebv)
                  | (have _h := hBav
                     (refine step_append_rd _ (by rfl) (.tmp 77) (.tmp 82) _ (by rfl) G 5 i0 _ 1 1 Try.underlying22 hi0 hz0 hz1 hz2 rfl hpos _ _ _ (by rfl) hownvv _ Aav (varB r.val.size).length cav ((varB r.val.size).map eB) (by rfl) hlenv hRdv (eB_one _) hmlv hbyv hsav ?_)
                     intro vbv wbv hownbv hgbv hatbv
                     have hbwbv := below_app' hbwav hownvv hsav hgbv rfl
                     have hBbv := Blk.grown hBav hgbv hneck
                     have hsbv : G ≤ wbv.heap.size := by have := hgbv.size; omega
                     have hnebv : some wr.heap.size ≠ vbv.ownBlock := ne_block hBav hneck hatbv)
                  | (go_at_call 53
                     refine (hvcv _).mono ?_
                     rintro e wav ⟨vav, rfl, hownav, hbav⟩
                     obtain ⟨Aav, cav, rfl, _⟩ := own_form hownav
                     have hBav : Blk wav wr.heap.size 44 #[.int .u32 (r.f : Nat), .int .i64 r.kind, .string r.key, .string r.val] := Blk.ext (by repeat (with_reducible first | assumption | refine Blk.drew ?_ | refine Blk.alloc ?_ _)) hbav
                     have hbwav : Below G w wav := below_thru hbwck hbav hsck
                     have hsav : G ≤ wav.heap.size := Nat.le_trans hsck (by simpa using hbav.size)
                     have hRdv := Rd.of_own hownav
                     have hownvv := own_below_d hownck hbav)))
              have hacckv : acck.map eB ++ (varB r.val.size).map eB ++ (strB r.val).map eB = (acc ++ recB r).map eB := by rw [← hrow.out]; simp [textB]
              have hlv : acck.length + (varB r.val.size).length + r.val.size = (acc ++ recB r).length := by rw [← hrow.out]; simp [textB, strB_len]; omega
              have hownF := howncv
              rw [hacckv, hlv] at hownF
              go_wp2
              go_roundw
              case rel => exact ⟨j + 1, acc ++ recB r, by omega, by go_num, hbwcv, hownF, by rw [List.length_append]; omega, hide hacc2.out.symm⟩
              case measure => simp [intOf]; omega
          · obtain rfl : j = k := by omega
            have hfin : Hid (acc = encB seq rs) := by unfold Hid; rw [hacc.out, hencB.out, List.take_of_length_le (by omega)]
            clear hacc hencB
            go_wp2
            go_ret2
            exact ⟨_, by rw [hee.out]; rfl, fun _ => by rw [hG', ← hfin.out]; exact how, fun h0 => absurd hee.out h0, by rw [hG']; exact hbw⟩

theorem refEncode_w (seq : Nat) (hs : seq < 18446744073709551616) (A : Option Addr) (n c : Nat) (rs : List Rec) (w : World) (h : Rsl w w.heap.size A n c rs) :
    Calls Try.prog 17 #[.int .u64 seq, .slice A n c] w (EncPost w seq rs) := by
  by_cases hf : fitsOf seq n = true
  · by_cases hn : n ≤ 4096
    · exact refEncode_main seq hs A n c rs w h hf hn
    · exact refEncode_long seq hs A n c rs w h hf (by omega)
  · exact refEncode_arg seq hs A n c rs w h (by simpa using hf)
end Go.Proofs.Ytonhhbebpcaaeaa
