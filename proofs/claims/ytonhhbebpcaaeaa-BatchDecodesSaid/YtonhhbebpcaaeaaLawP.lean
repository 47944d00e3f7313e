/- What Encode makes is what Decode reads: lists of bytes alone, no walk. -/
import Derived.Test.YtonhhbebpcaaeaaDecD
namespace Go.Proofs.Ytonhhbebpcaaeaa
open Go.RowKit

theorem lt_pow_idx {i n : Nat} (hn : 128 ≤ n) (h : n * 128 ^ i < 18446744073709551616) : i + 1 ≤ 9 := by
  rcases Nat.lt_or_ge i 9 with h9 | h9
  · omega
  · exfalso
    have h1 : 128 ^ 9 ≤ 128 ^ i := Nat.pow_le_pow_right (by omega) h9
    have h2 : 128 * 128 ^ 9 ≤ n * 128 ^ i := Nat.mul_le_mul hn h1
    omega
theorem rvGo_var : ∀ (n i acc : Nat) (rest : List UInt8), i ≤ 9 → (0 < i → 0 < n) → n * 128 ^ i < 18446744073709551616 →
    rvGo i acc (varB n ++ rest) = (acc + n * 128 ^ i, i + (varB n).length, 0) := by
  intro n
  induction n using Nat.strongRecOn with
  | ind n ih =>
    intro i acc rest hi hpos hlt
    by_cases h1 : n < 128
    · rw [varB_lo h1]
      have hx : (UInt8.ofNat n).toNat = n := by rw [UInt8.toNat_ofNat', Nat.mod_eq_of_lt (by omega)]
      have h9 : ¬ (i = 9 ∧ 1 < n) := by
        rintro ⟨rfl, h⟩
        have : 2 * 128 ^ 9 ≤ n * 128 ^ 9 := Nat.mul_le_mul_right _ (by omega)
        omega
      simp only [List.singleton_append, rvGo, hx]
      rw [if_neg h9, if_neg (by omega), if_pos h1, Nat.mod_eq_of_lt h1]
      rfl
    · rw [varB_hi (by omega)]
      have hx : (UInt8.ofNat (n % 128 + 128)).toNat = n % 128 + 128 := by rw [UInt8.toNat_ofNat', Nat.mod_eq_of_lt (by omega)]
      have hi9 := lt_pow_idx (i := i) (by omega : 128 ≤ n) hlt
      simp only [List.cons_append, rvGo, hx]
      rw [if_neg (by omega), if_neg (by omega), if_neg (by omega), show (n % 128 + 128) % 128 = n % 128 by omega]
      have hsplit : n % 128 * 128 ^ i + n / 128 * 128 ^ (i + 1) = n * 128 ^ i := by
        rw [Nat.pow_succ, Nat.mul_comm (128 ^ i) 128, ← Nat.mul_assoc, ← Nat.add_mul]
        congr 1
        omega
      rw [ih (n / 128) (by omega) (i + 1) _ rest hi9 (fun _ => by omega) (by omega), Nat.add_assoc, hsplit, List.length_cons]
      simp only [Prod.mk.injEq, true_and, and_true]
      omega
theorem rvGo_back (xs : List UInt8) : ∀ (i acc : Nat), (rvGo i acc xs).2.2 = 0 →
    ∃ n, xs = varB n ++ xs.drop ((rvGo i acc xs).2.1 - i) ∧ (rvGo i acc xs).1 = acc + n * 128 ^ i ∧ (rvGo i acc xs).2.1 = i + (varB n).length ∧ (0 < i → 0 < n) := by
  induction xs with
  | nil => intro i acc h; simp [rvGo] at h
  | cons x xs ih =>
    intro i acc h
    have hx := x.toNat_lt
    simp only [rvGo] at h ⊢
    split at h
    · simp at h
    · rename_i h9
      rw [if_neg h9]
      split at h
      · simp at h
      · rename_i h0
        rw [if_neg h0]
        split at h
        · rename_i hs
          rw [if_pos hs]
          refine ⟨x.toNat, ?_, ?_, ?_, by omega⟩
          · rw [varB_lo hs]
            simp
          · simp only [Nat.mod_eq_of_lt hs]
          · rw [varB_lo hs]; rfl
        · rename_i hs
          rw [if_neg hs]
          obtain ⟨n, h1, h2, h3, h4⟩ := ih _ _ h
          have hn := h4 (by omega)
          have hv : varB (x.toNat % 128 + 128 * n) = x :: varB n := by
            rw [varB_hi (by omega)]
            congr 1
            · apply UInt8.toNat_inj.1
              rw [UInt8.toNat_ofNat']
              omega
            · congr 1
              omega
          refine ⟨x.toNat % 128 + 128 * n, ?_, ?_, ?_, by omega⟩
          · rw [hv, List.cons_append]
            congr 1
            rw [h3] at h1 ⊢
            rw [show i + 1 + (varB n).length - i = (varB n).length + 1 by omega, List.drop_succ_cons]
            rw [show i + 1 + (varB n).length - (i + 1) = (varB n).length by omega] at h1
            exact h1
          · rw [h2, Nat.add_mul, Nat.pow_succ, Nat.mul_comm (128 ^ i) 128, ← Nat.mul_assoc, Nat.mul_comm n 128, Nat.add_assoc]
          · rw [h3, hv, List.length_cons]; omega

theorem rdVar_var {most n : Nat} (hn : n ≤ most) (h64 : n < 18446744073709551616) (rest : List UInt8) : rdVar most (varB n ++ rest) = .ok (n, rest) := by
  have h := rvGo_var n 0 0 rest (by omega) (by omega) (by omega)
  unfold rdVar readVar
  rw [h]
  simp only [Nat.pow_zero, Nat.mul_one, Nat.zero_add]
  rw [if_neg (by simp), if_neg (by omega), List.drop_left]
theorem rdVar_back {most n : Nat} {xs ys : List UInt8} (h : rdVar most xs = .ok (n, ys)) : xs = varB n ++ ys ∧ n ≤ most := by
  unfold rdVar at h
  split at h
  · cases h
  · rename_i h0
    split at h
    · cases h
    · rename_i h1
      injection h with h
      injection h with e1 e2
      obtain ⟨m, g1, g2, g3, _⟩ := rvGo_back xs 0 0 (by unfold readVar at h0; omega)
      simp only [Nat.pow_zero, Nat.mul_one, Nat.zero_add, Nat.sub_zero] at g1 g2 g3
      have em : m = n := by rw [← e1]; exact g2.symm
      subst em
      refine ⟨?_, by omega⟩
      rw [← e2]
      exact g1

theorem strOf_strB (s : ByteArray) : strOf (strB s) = s := by
  cases s
  simp [strOf, strB]
theorem strB_strOf (xs : List UInt8) : strB (strOf xs) = xs := by simp [strOf, strB]
theorem strOf_size (xs : List UInt8) : (strOf xs).size = xs.length := by simp [strOf, ByteArray.size]
theorem rdText_text {most : Nat} {s : ByteArray} (hs : s.size ≤ most) (h64 : s.size < 18446744073709551616) (rest : List UInt8) : rdText most (textB s ++ rest) = .ok (s, rest) := by
  unfold rdText textB
  rw [List.append_assoc, rdVar_var hs h64]
  simp only
  have hl := strB_len s
  rw [if_neg (by simp [hl]), ← hl, List.take_left, List.drop_left, strOf_strB]
theorem rdText_back {most : Nat} {s : ByteArray} {xs ys : List UInt8} (h : rdText most xs = .ok (s, ys)) : xs = textB s ++ ys ∧ s.size ≤ most := by
  unfold rdText at h
  cases hq : rdVar most xs with
  | error e => rw [hq] at h; cases h
  | ok p =>
    obtain ⟨n, zs⟩ := p
    rw [hq] at h
    simp only at h
    obtain ⟨g1, g2⟩ := rdVar_back hq
    split at h
    · cases h
    · rename_i hn
      injection h with h
      injection h with e1 e2
      have hsz : s.size = n := by rw [← e1, strOf_size]; simp; omega
      refine ⟨?_, by omega⟩
      unfold textB
      rw [hsz, ← e1, strB_strOf, ← e2, List.append_assoc, List.take_append_drop]
      exact g1

def plainR (r : Rec) : Rec := if r.kind = 0 then { r with val := ⟨#[]⟩ } else r
theorem rdRec_rec (r : Rec) (hr : r.Ok) (hc : checkOf r = 0) (rest : List UInt8) : rdRec (recB r ++ rest) = .ok (plainR r, rest) := by
  obtain ⟨hk, hkey, hval⟩ := check_in hc
  have hf := hr.f
  obtain ⟨f, k, key, val⟩ := r
  simp only at hk hkey hval hf
  have hval2 : mostOf k val.size < val.size → False := fun h => by
    unfold checkOf at hc
    simp only at hc
    split at hc
    · cases hc
    · rw [if_pos (.inr h)] at hc; cases hc
  unfold recB rdRec
  simp only [List.cons_append, List.append_assoc]
  have e1 := fun rest => rdVar_var (most := 4294967295) (n := f) (by omega) (by omega) rest
  have e2 := fun rest => rdText_text (most := 1024) (s := key) hkey (by omega) rest
  rcases hk with rfl | rfl | rfl
  · simp only [if_true, List.nil_append]
    rw [if_neg (by decide), e1]
    simp only
    rw [e2]
    simp [plainR]
  · have hv : val.size ≤ 16384 := by unfold mostOf at hval2; simp at hval2; omega
    rw [if_neg (by decide), if_neg (by decide), e1]
    simp only
    rw [e2]
    simp only
    rw [if_neg (by decide), if_pos (by decide), rdText_text hv (by omega)]
    simp [plainR]
  · have hv : val.size ≤ 1024 := by unfold mostOf at hval2; simp at hval2; omega
    rw [if_neg (by decide), if_neg (by decide), e1]
    simp only
    rw [e2]
    simp only
    rw [if_neg (by decide), if_neg (by decide), rdText_text hv (by omega)]
    simp [plainR]
theorem rdRec_back {r : Rec} {xs ys : List UInt8} (h : rdRec xs = .ok (r, ys)) : xs = recB r ++ ys ∧ r.Ok ∧ checkOf r = 0 ∧ plainR r = r := by
  unfold rdRec at h
  cases xs with
  | nil => cases h
  | cons x xs =>
    have hx := x.toNat_lt
    simp only at h
    split at h
    · cases h
    · rename_i h2
      cases hq : rdVar 4294967295 xs with
      | error e => rw [hq] at h; cases h
      | ok p =>
        obtain ⟨f, zs⟩ := p
        rw [hq] at h
        simp only at h
        obtain ⟨g1, g2⟩ := rdVar_back hq
        cases hq2 : rdText 1024 zs with
        | error e => rw [hq2] at h; cases h
        | ok p =>
          obtain ⟨key, us⟩ := p
          rw [hq2] at h
          simp only at h
          obtain ⟨g3, g4⟩ := rdText_back hq2
          split at h
          · rename_i h0
            injection h with h
            injection h with e1 e2
            subst e1 e2
            have hx0 : x = UInt8.ofNat ((0 : Int) % 256).toNat := by apply UInt8.toNat_inj.1; rw [h0]; rfl
            refine ⟨?_, ⟨by simp only; omega, by simp, by simp, by simp only [maxB]; omega, Nat.zero_le _⟩, ?_, by simp [plainR]⟩
            · rw [g1, g3, hx0]
              simp [recB]
            · unfold checkOf mostOf
              simp only
              rw [if_neg (by omega), if_neg]
              simp
              omega
          · rename_i h0
            cases hq3 : rdText (if x.toNat = 1 then 16384 else 1024) us with
            | error e => rw [hq3] at h; cases h
            | ok p =>
              obtain ⟨val, vs⟩ := p
              rw [hq3] at h
              simp only at h
              obtain ⟨g5, g6⟩ := rdText_back hq3
              injection h with h
              injection h with e1 e2
              subst e1 e2
              have hx0 : x = UInt8.ofNat ((x.toNat : Int) % 256).toNat := by apply UInt8.toNat_inj.1; rw [UInt8.toNat_ofNat']; omega
              have hg6 : val.size ≤ 16384 := by split at g6 <;> omega
              refine ⟨?_, ⟨by simp only; omega, by simp only; omega, by simp only; omega, by simp only [maxB]; omega, by simp only [maxB]; omega⟩, ?_, ?_⟩
              · unfold recB
                simp only
                rw [if_neg (by omega), ← hx0, g1, g3, g5]
                simp
              · unfold checkOf mostOf
                simp only
                rw [if_neg (by omega), if_neg]
                rintro (h1 | h1)
                · omega
                · split at g6
                  · rw [if_pos (by omega)] at h1; omega
                  · rw [if_neg (by omega), if_pos (by omega)] at h1; omega
              · unfold plainR
                rw [if_neg (by simp only; omega)]

theorem rdAll_all (rs : List Rec) (ho : ∀ r ∈ rs, r.Ok) (hc : ∀ r ∈ rs, checkOf r = 0) (rest : List UInt8) : rdAll rs.length (rs.flatMap recB ++ rest) = .ok (rs.map plainR, rest) := by
  induction rs with
  | nil => rfl
  | cons r rs ih =>
    simp only [List.flatMap_cons, List.append_assoc, List.length_cons, rdAll]
    rw [rdRec_rec r (ho r (by simp)) (hc r (by simp))]
    simp only
    rw [ih (fun r h => ho r (List.mem_cons_of_mem _ h)) (fun r h => hc r (List.mem_cons_of_mem _ h))]
    rfl
theorem rdAll_back (n : Nat) : ∀ {xs : List UInt8} {rs : List Rec} {ys : List UInt8}, rdAll n xs = .ok (rs, ys) → xs = rs.flatMap recB ++ ys ∧ rs.length = n ∧ ∀ r ∈ rs, r.Ok ∧ checkOf r = 0 ∧ plainR r = r := by
  induction n with
  | zero =>
    intro xs rs ys h
    simp only [rdAll] at h
    injection h with h
    injection h with e1 e2
    subst e1 e2
    exact ⟨rfl, rfl, by simp⟩
  | succ n ih =>
    intro xs rs ys h
    simp only [rdAll] at h
    cases hq : rdRec xs with
    | error e => rw [hq] at h; cases h
    | ok p =>
      obtain ⟨r, zs⟩ := p
      rw [hq] at h
      simp only at h
      cases hq2 : rdAll n zs with
      | error e => rw [hq2] at h; cases h
      | ok p =>
        obtain ⟨rs', us⟩ := p
        rw [hq2] at h
        simp only at h
        injection h with h
        injection h with e1 e2
        subst e1 e2
        obtain ⟨g1, g2⟩ := rdRec_back hq
        obtain ⟨g3, g4, g5⟩ := ih hq2
        refine ⟨?_, by simp [g4], ?_⟩
        · rw [List.flatMap_cons, List.append_assoc, ← g3]; exact g1
        · intro x hx
          rcases List.mem_cons.1 hx with rfl | hx
          · exact g2
          · exact g5 x hx

theorem leNat_append (a b : List UInt8) : leNat (a ++ b) = leNat a + 256 ^ a.length * leNat b := by
  induction a with
  | nil => simp [leNat]
  | cons x a ih =>
    simp only [List.cons_append, leNat, ih, List.length_cons, Nat.pow_succ]
    rw [Nat.mul_add, Nat.mul_comm (256 ^ a.length) 256, Nat.mul_assoc, Nat.add_assoc]
theorem leNat_leBytes (n k : Nat) : leNat (leBytes n k) = n % 256 ^ k := by
  induction k with
  | zero => simp [leBytes, leNat, Nat.mod_one]
  | succ k ih =>
    rw [leBytes, leNat_snoc, ih, leBytes_len, UInt8.toNat_ofNat', show (2 : Nat) ^ (8 * k) = 256 ^ k by rw [Nat.pow_mul], show (2 : Nat) ^ 8 = 256 from rfl, Nat.pow_succ, Nat.mod_mul]
theorem leBytes_leNat (xs : List UInt8) : leBytes (leNat xs) xs.length = xs := by
  have key : ∀ (k : Nat), k ≤ xs.length → leBytes (leNat xs) k = xs.take k := by
    intro k
    induction k with
    | zero => intro _; simp [leBytes]
    | succ k ih =>
      intro hk
      rw [leBytes, ih (by omega), List.take_succ_eq_append_getElem (by omega)]
      congr 2
      have h1 : leNat xs = leNat (xs.take (k + 1)) + 256 ^ (k + 1) * leNat (xs.drop (k + 1)) := by
        have := leNat_append (xs.take (k + 1)) (xs.drop (k + 1))
        rw [List.take_append_drop, List.length_take, Nat.min_eq_left (by omega)] at this
        exact this
      rw [List.take_succ_eq_append_getElem (by omega), leNat_snoc, List.length_take, Nat.min_eq_left (by omega)] at h1
      have h2 := leNat_lt (xs.take k)
      rw [List.length_take, Nat.min_eq_left (by omega)] at h2
      apply UInt8.toNat_inj.1
      rw [UInt8.toNat_ofNat', show (2 : Nat) ^ (8 * k) = 256 ^ k by rw [Nat.pow_mul], h1]
      have h3 : (leNat (xs.take k) + 256 ^ k * xs[k].toNat + 256 ^ (k + 1) * leNat (xs.drop (k + 1))) / 256 ^ k = xs[k].toNat + 256 * leNat (xs.drop (k + 1)) := by
        rw [Nat.pow_succ, Nat.mul_assoc, Nat.add_assoc, ← Nat.mul_add, Nat.add_mul_div_left _ _ (Nat.pos_of_ne_zero (by simp)), Nat.div_eq_of_lt h2, Nat.zero_add]
      rw [h3]
      have := xs[k].toNat_lt
      omega
  have := key xs.length (Nat.le_refl _)
  rwa [List.take_length] at this

theorem firstBad_all {rs : List Rec} (h : firstBad rs = 0) : ∀ r ∈ rs, checkOf r = 0 := by
  induction rs with
  | nil => simp
  | cons x rs ih =>
    unfold firstBad at h
    split at h
    · rename_i h0
      intro r hr
      rcases List.mem_cons.1 hr with rfl | hr
      · exact h0
      · exact ih h r hr
    · rename_i h0
      exact absurd h h0
theorem encErr_zero {seq : Nat} {rs : List Rec} (h : encErr seq rs = 0) : fitsOf seq rs.length = true ∧ rs.length ≤ 4096 ∧ (∀ r ∈ rs, checkOf r = 0) ∧ 12 + sizesOf rs ≤ 4194304 := by
  unfold encErr at h
  split at h
  · cases h
  · rename_i h1
    split at h
    · cases h
    · rename_i h2
      split at h
      · rename_i h3; exact absurd h h3
      · rename_i h3
        split at h
        · cases h
        · exact ⟨by simpa using h1, by omega, firstBad_all (Decidable.of_not_not h3), by omega⟩
theorem encB_len (seq : Nat) (rs : List Rec) : (encB seq rs).length = 12 + sizesOf rs := by
  unfold encB
  rw [List.length_append, List.length_append, leBytes_len, leBytes_len, sizesOf_flat]
theorem fitsOf_seq {seq n : Nat} (h : fitsOf seq n = true) : seq ≤ 72057594037927935 := by
  unfold fitsOf at h
  simp at h
  omega
theorem decode_enc (seq : Nat) (rs : List Rec) (ho : ∀ r ∈ rs, r.Ok) (h : encErr seq rs = 0) : decode (encB seq rs) = .ok (seq, rs.map plainR) := by
  obtain ⟨h1, h2, h3, h4⟩ := encErr_zero h
  have hs := fitsOf_seq h1
  have hl := encB_len seq rs
  have e8 : (encB seq rs).take 8 = leBytes seq 8 := by
    unfold encB
    rw [List.append_assoc, List.take_append_of_le_length (by rw [leBytes_len]; omega)]
    exact List.take_of_length_le (by rw [leBytes_len]; omega)
  have e4 : ((encB seq rs).drop 8).take 4 = leBytes rs.length 4 := by
    unfold encB
    rw [List.append_assoc, List.drop_append_of_le_length (by rw [leBytes_len]; omega), List.drop_of_length_le (by rw [leBytes_len]; omega), List.nil_append, List.take_append_of_le_length (by rw [leBytes_len]; omega)]
    exact List.take_of_length_le (by rw [leBytes_len]; omega)
  have e12 : (encB seq rs).drop 12 = rs.flatMap recB ++ [] := by
    unfold encB
    rw [List.drop_append_of_le_length (by simp [leBytes_len]), List.drop_of_length_le (by simp [leBytes_len])]
    simp
  unfold decode
  rw [e8, e4, e12, leNat_leBytes, leNat_leBytes, Nat.mod_eq_of_lt (by omega), Nat.mod_eq_of_lt (by omega), rdAll_all rs ho h3]
  rw [if_neg (by omega), if_neg (by omega), if_neg (by omega), if_neg (by omega), if_neg (by rw [h1]; simp; omega)]
  simp
theorem enc_decode {xs : List UInt8} {seq : Nat} {rs : List Rec} (h : decode xs = .ok (seq, rs)) : encErr seq rs = 0 ∧ encB seq rs = xs ∧ (∀ r ∈ rs, r.Ok) ∧ rs.map plainR = rs := by
  unfold decode at h
  split at h
  · cases h
  · rename_i h1
    split at h
    · cases h
    · rename_i h2
      split at h
      · cases h
      · rename_i h3
        split at h
        · cases h
        · rename_i h4
          split at h
          · cases h
          · rename_i h5
            cases hq : rdAll (leNat ((xs.drop 8).take 4)) (xs.drop 12) with
            | error e => rw [hq] at h; cases h
            | ok p =>
              obtain ⟨rs', ys⟩ := p
              rw [hq] at h
              simp only at h
              split at h
              · cases h
              · rename_i h6
                injection h with h
                injection h with e1 e2
                subst e1 e2
                obtain ⟨g1, g2, g3⟩ := rdAll_back _ hq
                have hy : ys = [] := List.eq_nil_of_length_eq_zero (by omega)
                subst hy
                rw [List.append_nil] at g1
                have hB : encB (leNat (xs.take 8)) rs' = xs := by
                  unfold encB
                  rw [g2, ← g1]
                  have a1 := leBytes_leNat (xs.take 8)
                  have a2 := leBytes_leNat ((xs.drop 8).take 4)
                  rw [List.length_take, Nat.min_eq_left (by omega)] at a1
                  rw [List.length_take, List.length_drop, Nat.min_eq_left (by omega)] at a2
                  rw [a1, a2, List.append_assoc]
                  have : (xs.drop 8).take 4 ++ xs.drop 12 = xs.drop 8 := by
                    have := List.take_append_drop 4 (xs.drop 8)
                    rwa [List.drop_drop] at this
                  rw [this, List.take_append_drop]
                have hl := encB_len (leNat (xs.take 8)) rs'
                rw [hB] at hl
                have hne := not_or.1 h5
                refine ⟨?_, hB, fun r hr => (g3 r hr).1, ?_⟩
                · unfold encErr
                  rw [g2, if_neg (by simpa using hne.2), if_neg hne.1, firstBad_none rs' (fun r hr => (g3 r hr).2.1), if_neg (by simp), if_neg (by omega)]
                · have : ∀ l : List Rec, (∀ r ∈ l, plainR r = r) → l.map plainR = l := by
                    intro l
                    induction l with
                    | nil => intro _; rfl
                    | cons x l ih => intro h; rw [List.map_cons, h x (by simp), ih fun r hr => h r (List.mem_cons_of_mem _ hr)]
                  exact this rs' fun r hr => (g3 r hr).2.2
end Go.Proofs.Ytonhhbebpcaaeaa
