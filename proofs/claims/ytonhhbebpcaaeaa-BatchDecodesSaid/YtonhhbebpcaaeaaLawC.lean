/- batch.Batch: the walks of Add, Put, Records, Size; the small living call of layer 3. -/
import Derived.Test.YtonhhbebpcaaeaaLawB
namespace Go.Proofs.Ytonhhbebpcaaeaa
open Go.RowKit

theorem AllPost.of_ext {w W : World} {P base : Nat} {A : Option Addr} {n c : Nat} {L : List Rec} {sz : Nat} {m : Value} {rs : List Rec} {e : Ending} {w' : World} (hb : Below w.heap.size w W) (h : AllPost W P base A n c L sz m rs e w') : AllPost w P base A n c L sz m rs e w' := by
  obtain ⟨h1, h2, h3⟩ := h
  refine ⟨h1, fun h0 => hb.trans ((h2 h0).mono hb.size), fun h0 => ?_⟩
  obtain ⟨A', c', g1, g2, g3, g4⟩ := h3 h0
  refine ⟨A', c', (Fr.ext hb).trans g1 (fun _ _ h => h), g2, g3, ?_⟩
  rcases g4 with g4 | ⟨g, g4, g5⟩
  · exact .inl g4
  · exact .inr ⟨g, g4, Nat.le_trans hb.size g5⟩
theorem Rsl.one (w : World) (r : Rec) (hr : r.Ok) : Rsl (w.alloc (.cells #[.int .u32 (r.f : Nat), .int .i64 r.kind, .string r.key, .string r.val] 44)) (w.alloc (.cells #[.int .u32 (r.f : Nat), .int .i64 r.kind, .string r.key, .string r.val] 44)).heap.size (some ⟨w.heap.size, 0, none⟩) 1 1 [r] :=
  ⟨rfl, Nat.le_refl _, by unfold maxLen; omega, by omega, Rd.lit _ _ _ _ rfl, by intro x hx; simp at hx; subst hx; exact hr⟩

set_option maxRecDepth 100000 in
set_option maxHeartbeats 2000000 in
theorem batAdd_w (P base : Nat) (A : Option Addr) (n c : Nat) (L : List Rec) (sz : Nat) (m : Value) (r : Rec) (hr : r.Ok) (w : World)
    (hP : Blk w P 75 #[.slice A n c, .int .i64 sz, m]) (ho : w.ownsRow base 44 4 (.slice A n c) n (rAll L)) (hbase : base ≤ w.heap.size) (hPb : P < base) (hn : n ≤ 4096) (hsz : sz ≤ 4194304) :
    Calls Try.prog 76 #[.pointer (some ⟨P, 0, none⟩), vRec r] w (AllPost w P base A n c L sz m [r]) := by
  unfold vRec
  have hb1 : Below w.heap.size w (w.alloc (.cells #[.int .u32 (r.f : Nat), .int .i64 r.kind, .string r.key, .string r.val] 44)) := (Below.refl _ _).alloc (Nat.le_refl _) _
  have hb2 := hb1.alloc (by simp) (.cells #[.int .u32 (r.f : Nat), .int .i64 r.kind, .string r.key, .string r.val] 44)
  have hlt := hP.lt
  have hall := all_w P base A n c L sz m _ 1 1 [r] _ (hP.ext hb2) (own_below' ho hb2) (Nat.le_trans hbase hb2.size) hPb hn hsz (Rsl.one _ r hr) (by
    intro a ha
    injection ha with ha
    subst ha
    simp only [World.size_alloc]
    rintro (h1 | h1)
    · omega
    · have := (ho.lt _ h1.symm).2; omega)
  rw [World.size_alloc] at hall
  go_enter Try.func76, Try.ntmps76
  go_wp2_with fail
  go_at_call 114
  refine hall.mono ?_
  intro e w' hp
  have hp2 := hp.of_ext hb2
  obtain ⟨rfl, h2, h3⟩ := hp2
  go_wp2
  go_ret
  exact ⟨rfl, h2, h3⟩

set_option maxRecDepth 100000 in
set_option maxHeartbeats 2000000 in
theorem put_w (P base : Nat) (A : Option Addr) (n c : Nat) (L : List Rec) (sz : Nat) (m : Value) (f : Nat) (key val : ByteArray) (hr : (Rec.mk f 1 key val).Ok) (w : World)
    (hP : Blk w P 75 #[.slice A n c, .int .i64 sz, m]) (ho : w.ownsRow base 44 4 (.slice A n c) n (rAll L)) (hbase : base ≤ w.heap.size) (hPb : P < base) (hn : n ≤ 4096) (hsz : sz ≤ 4194304) :
    Calls Try.prog 55 #[.pointer (some ⟨P, 0, none⟩), .int .u32 f, .string key, .string val] w (AllPost w P base A n c L sz m [⟨f, 1, key, val⟩]) := by
  have hadd := batAdd_w P base A n c L sz m ⟨f, 1, key, val⟩ hr w hP ho hbase hPb hn hsz
  unfold vRec at hadd
  simp only at hadd
  go_enter Try.func55, Try.ntmps55
  go_wp2_with fail
  go_at_call 76
  refine hadd.mono ?_
  rintro e w' ⟨rfl, h2, h3⟩
  go_wp2
  go_ret
  exact ⟨rfl, h2, h3⟩

theorem size_bat_w (P : Nat) (v : Value) (sz : Nat) (m : Value) (w : World) (hP : Blk w P 75 #[v, .int .i64 sz, m]) (hsz : sz ≤ 4194304) :
    Calls Try.prog 57 #[.pointer (some ⟨P, 0, none⟩)] w fun e w' => e = .returned (.int .i64 (max sz 12 : Nat)) ∧ w' = w := by
  have p1 := hP.cell 1
  simp only [List.getElem?_toArray, List.getElem?_cons_succ, List.getElem?_cons_zero] at p1
  go_enter Try.func57, Try.ntmps57
  go_wp2
  · go_ret
    exact ⟨ret_int (by omega), rfl⟩
  · go_ret
    exact ⟨ret_int (by omega), rfl⟩

set_option maxRecDepth 100000 in
theorem records_w (P : Nat) (A : Option Addr) (n c : Nat) (L : List Rec) (s m : Value) (w : World) (hP : Blk w P 75 #[.slice A n c, s, m]) (hR : Rsl w w.heap.size A n c L) :
    Calls Try.prog 56 #[.pointer (some ⟨P, 0, none⟩)] w fun e w' => ∃ v, e = .returned v ∧ w'.ownsRow w.heap.size 44 4 v n (rAll L) ∧ Below w.heap.size w w' := by
  have p0 := hP.cell 0
  simp only [List.getElem?_toArray, List.getElem?_cons_zero] at p0
  have hc := cloneR_w A n c L w hR
  go_enter Try.func56, Try.ntmps56
  go_wp2_with fail
  go_at_call 99
  refine hc.mono ?_
  rintro e w' ⟨v, rfl, h2, h3⟩
  go_wp2
  go_ret
  exact ⟨v, rfl, h2, h3⟩

def abRec : Rec := ⟨0, 1, ⟨#[97]⟩, ⟨#[98]⟩⟩
theorem ab_ok : abRec.Ok := ⟨by decide, by decide, by decide, by decide, by decide⟩
def abB : List UInt8 := [5, 0, 0, 0, 0, 0, 0, 0, 1, 0, 0, 0, 1, 0, 1, 97, 1, 98]
theorem ab_rec : recB abRec = [1, 0, 1, 97, 1, 98] := by
  simp [recB, abRec, textB, strB, varB, ByteArray.size]
theorem ab_add : addErr 0 0 [abRec] = 0 := by
  unfold addErr
  simp only [firstBad, sizesOf, ab_rec]
  decide
theorem ab_err : encErr 5 [abRec] = 0 := by
  unfold encErr
  simp only [firstBad, sizesOf, ab_rec]
  decide
theorem ab_enc : encB 5 [abRec] = abB := by
  unfold encB
  simp only [List.flatMap_cons, List.flatMap_nil, ab_rec]
  decide
theorem ab_size : max 0 12 + sizesOf [abRec] = 18 := by
  simp only [sizesOf, ab_rec]
  decide
theorem ab_plain : ([] : List Rec) ++ [abRec].map plainR = [abRec] := rfl

set_option maxRecDepth 100000 in
set_option maxHeartbeats 2000000 in
theorem lives3_w (w : World) : Calls Try.prog 20 #[] w fun e w' => e = .returned (.bool true) ∧ Below w.heap.size w w' := by
  have hP := Blk.new w 75 #[.slice none 0 0, .int .i64 (0 : Nat), .slice none 0 0]
  have hb0 : Below w.heap.size w (w.alloc (.cells #[.slice none 0 0, .int .i64 (0 : Nat), .slice none 0 0] 75)) := (Below.refl _ _).alloc (Nat.le_refl _) _
  have hput : Calls Try.prog 55 #[.pointer (some ⟨w.heap.size, 0, none⟩), .int .u32 (0 : Nat), .string ⟨#[97]⟩, .string ⟨#[98]⟩] _ (AllPost _ w.heap.size (w.heap.size + 1) none 0 0 [] 0 (.slice none 0 0) [abRec]) :=
    put_w w.heap.size (w.heap.size + 1) none 0 0 [] 0 (.slice none 0 0) 0 ⟨#[97]⟩ ⟨#[98]⟩ ab_ok _ hP (World.ownsRow_nil _ _ _ _) (by simp) (by omega) (by omega) (by omega)
  go_enter Try.func20, Try.ntmps20
  go_wp2_with fail
  go_at_call 55
  refine hput.mono ?_
  rintro e w1 ⟨rfl, -, h3⟩
  clear hput
  obtain ⟨A1, c1, hf1, hP1, ho1, -⟩ := h3 ab_add
  have hbw1 : Below w.heap.size w w1 := hf1.belowT hb0 (Nat.le_refl _) (fun k _ h => by
    rcases h with h | h
    · omega
    · simp [Value.ownBlock] at h)
  rw [ab_add, ab_size, ab_plain] at *
  simp only [List.length_cons, List.length_nil, Nat.zero_add] at hP1 ho1
  clear h3 hf1 hP hb0
  have hR1 := Rsl.of_own ho1 (by intro x hx; simp at hx; subst hx; exact ab_ok) (by omega)
  have hrec := records_w w.heap.size A1 1 c1 [abRec] _ _ w1 hP1 hR1
  go_wp2_with fail
  go_at_call 56
  refine hrec.mono ?_
  rintro e w2 ⟨v2, rfl, ho2, hb2⟩
  clear hrec
  obtain ⟨A2, c2, rfl, -⟩ := own_form ho2
  have hP2 := hP1.ext hb2
  have hR2 := Rsl.of_own ho2 (by intro x hx; simp at hx; subst hx; exact ab_ok) (by omega)
  have henc := encode_w 5 (by omega) A2 1 c2 [abRec] w2 hR2
  have hbw2 := hbw1.trans (hb2.mono hbw1.size)
  unfold EncPost at henc
  rw [ab_err, ab_enc] at henc
  go_wp2_with fail
  go_at_call 16
  refine henc.mono ?_
  rintro e w3 ⟨v3, rfl, ho3, -, hb3⟩
  clear henc
  have ho3 := ho3 trivial
  obtain ⟨A3, c3, rfl, -⟩ := own_form ho3
  have hB3 := Bsl.of_own ho3 (by unfold maxB; decide)
  have u1 : (convert 22 9 (.slice A3 abB.length c3)).run Try.prog w3 = .ok (.string ⟨#[5, 0, 0, 0, 0, 0, 0, 0, 1, 0, 0, 0, 1, 0, 1, 97, 1, 98]⟩) w3 := run_conv_str Try.underlying22 Try.underlying5 Try.underlying9 hB3
  have hsz := size_bat_w w.heap.size _ 18 _ w3 (hP2.ext hb3) (by omega)
  have hbw3 := hbw2.trans (hb3.mono hbw2.size)
  go_wp2_with (go_at_call 57; refine hsz.mono ?_; rintro e w7 ⟨rfl, hw⟩; subst hw)
  go_ret
  exact ⟨rfl, hbw3⟩
end Go.Proofs.Ytonhhbebpcaaeaa
