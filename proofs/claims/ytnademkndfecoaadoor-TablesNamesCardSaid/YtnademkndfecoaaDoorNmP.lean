/- Names of files by their numbers: at least six decimal digits; and back. No program is in sight. -/
import Derived.Lib.ItoaNum
import Derived.Lib.ParseIntB
import Derived.Lib.Repeat
import Derived.Lib.Strings
namespace Go.Proofs.YtnademkndfecoaaDoor
open Go.Lib

/-- The decimal digits of n (none of 0), at least k of them. -/
def digs (k n : Nat) : List UInt8 := if h : n = 0 ∧ k = 0 then [] else digs (k - 1) (n / 10) ++ [UInt8.ofNat (48 + n % 10)]
termination_by n + k
decreasing_by omega

theorem digs_nil : digs 0 0 = [] := by rw [digs, dif_pos ⟨rfl, rfl⟩]
theorem digs_step {k n : Nat} (h : ¬(n = 0 ∧ k = 0)) : digs k n = digs (k - 1) (n / 10) ++ [UInt8.ofNat (48 + n % 10)] := by rw [digs, dif_neg h]

theorem rep_snoc (c : Nat) : repeatL [48] c ++ [48] = repeatL [48] (c + 1) := by
  rw [repeatL_add]; rfl

theorem digs_pad : ∀ (n k : Nat), 1 ≤ k → digs k n = repeatL [48] (k - nDigits n) ++ decDigits n := by
  intro n
  induction n using Nat.strongRecOn with
  | _ n ih =>
    intro k
    by_cases h10 : n < 10
    · intro hk
      have hz : ∀ k, digs k 0 = repeatL [48] k := by
        intro k
        induction k with
        | zero => rw [digs_nil]; rfl
        | succ k ihk => rw [digs_step (by omega), show k + 1 - 1 = k by omega, show 0 / 10 = 0 from rfl, ihk]; exact rep_snoc k
      rw [digs_step (by omega), show n / 10 = 0 by omega, hz, nDigits_small h10, decDigits_one h10, Nat.mod_eq_of_lt h10]
    · intro hk
      rw [digs_step (by omega)]
      have e : digs (k - 1) (n / 10) = digs (max (k - 1) 1) (n / 10) := by
        by_cases h1 : k - 1 = 0
        · rw [h1, digs_step (by omega), digs_step (k := max 0 1) (by omega)]
          rfl
        · rw [show max (k - 1) 1 = k - 1 by omega]
      rw [e, ih (n / 10) (by omega) _ (by omega), List.append_assoc, nDigits_big h10]
      conv => rhs; rw [decDigits, dif_neg h10]
      have hp := nDigits_pos (n / 10)
      rw [show max (k - 1) 1 - nDigits (n / 10) = k - (nDigits (n / 10) + 1) by omega]

/-- The digits with a beginning and an end. -/
def nmL (pre post : List UInt8) (n : Nat) : List UInt8 := pre ++ (digs 6 n ++ post)

theorem nDigits_le {u : Nat} (h : u < 18446744073709551616) : nDigits u ≤ 20 := by
  by_cases h0 : u < 10
  · rw [nDigits_small h0]; omega
  · by_cases h : nDigits u ≤ 20
    · exact h
    · exfalso
      have : ∀ (k u : Nat), k + 1 ≤ nDigits u → 10 ^ k ≤ u ∨ u < 10 ∧ k = 0 := by
        intro k
        induction k with
        | zero => intro u _; by_cases hu : u < 10
                  · exact .inr ⟨hu, rfl⟩
                  · exact .inl (by omega)
        | succ k ih =>
          intro u hu
          by_cases h10 : u < 10
          · rw [nDigits_small h10] at hu; omega
          · rw [nDigits_big h10] at hu
            rcases ih (u / 10) (by omega) with h1 | ⟨h1, rfl⟩
            · exact .inl (by rw [Nat.pow_succ]; omega)
            · exact .inl (by omega)
      rcases this 20 u (by omega) with h1 | ⟨h1, _⟩ <;> omega

theorem digs6_len {u : Nat} (h : u < 18446744073709551616) : (digs 6 u).length ≤ 20 := by
  rw [digs_pad u 6 (by omega), List.length_append, repeatL_length, decDigits_length]
  have := nDigits_le h
  have := nDigits_pos u
  simp
  omega

theorem dgt {m : Nat} : (UInt8.ofNat (48 + m % 10)).toNat = 48 + m % 10 := by
  rw [UInt8.toNat_ofNat']; omega

theorem pu_snoc (M : Nat) (hM : M < 18446744073709551616) (c : UInt8) (h1 : 48 ≤ c.toNat) (h2 : c.toNat ≤ 57) : ∀ (l : List UInt8) (a m : Nat), parseUintM M a l = .ok m → m * 10 + (c.toNat - 48) ≤ M → parseUintM M a (l ++ [c]) = .ok (m * 10 + (c.toNat - 48))
  | [], a, m, h, hle => by
    injection h with h
    subst h
    rw [List.nil_append, parseUintM, if_pos ⟨h1, h2⟩, if_neg (by omega), if_neg (by omega)]
    rfl
  | x :: l, a, m, h, hle => by
    rw [List.cons_append, parseUintM]
    rw [parseUintM] at h
    by_cases hx : 48 ≤ x.toNat ∧ x.toNat ≤ 57
    · rw [if_pos hx] at h ⊢
      by_cases h3 : 1844674407370955162 ≤ a
      · rw [if_pos h3] at h; cases h
      · rw [if_neg h3] at h ⊢
        by_cases h4 : M < a * 10 + (x.toNat - 48)
        · rw [if_pos h4] at h; cases h
        · rw [if_neg h4] at h ⊢
          exact pu_snoc M hM c h1 h2 l _ m h hle
    · rw [if_neg hx] at h; cases h

theorem pu_digs (M : Nat) (hM : M < 18446744073709551616) : ∀ (k n : Nat), n ≤ M → parseUintM M 0 (digs k n) = .ok n := by
  intro k n
  induction k, n using digs.induct with
  | case1 k n h => intro _; obtain ⟨rfl, rfl⟩ := h; rw [digs_nil]; rfl
  | case2 k n h ih =>
    intro hn
    rw [digs_step h]
    have := pu_snoc M hM (UInt8.ofNat (48 + n % 10)) (by rw [dgt]; omega) (by rw [dgt]; omega) _ 0 _ (ih (by omega)) (by rw [dgt]; omega)
    rw [this, dgt]
    congr 1
    omega

theorem digs6_ne (n : Nat) : digs 6 n ≠ [] := by
  rw [digs_step (by omega)]
  simp

theorem parse_digs {n : Nat} (h : n < 18446744073709551616) : parseUintB 64 (digs 6 n) = .ok n := by
  unfold parseUintB
  rw [if_neg (digs6_ne n)]
  exact pu_digs _ (by decide) 6 n (by omega)

/-- The number that the digits in front spell, in 64 bits. -/
def foldN (a : Nat) : List UInt8 → Nat
  | [] => a
  | c :: r => if 48 ≤ c.toNat ∧ c.toNat ≤ 57 then foldN ((10 * a % 18446744073709551616 + (c.toNat - 48)) % 18446744073709551616) r else a

theorem foldN_lt : ∀ (l : List UInt8) (a : Nat), a < 18446744073709551616 → foldN a l < 18446744073709551616
  | [], a, h => h
  | c :: r, a, h => by
    rw [foldN]
    split
    · exact foldN_lt r _ (by omega)
    · exact h

theorem foldN_app : ∀ (l r : List UInt8) (a : Nat), (∀ c ∈ l, 48 ≤ c.toNat ∧ c.toNat ≤ 57) → foldN a (l ++ r) = foldN (foldN a l) r
  | [], r, a, _ => rfl
  | c :: l, r, a, h => by
    rw [List.cons_append, foldN, foldN, if_pos (h c (by simp)), if_pos (h c (by simp))]
    exact foldN_app l r _ (fun x hx => h x (by simp [hx]))

theorem digs_dig : ∀ (k n : Nat), ∀ c ∈ digs k n, 48 ≤ c.toNat ∧ c.toNat ≤ 57 := by
  intro k n
  induction k, n using digs.induct with
  | case1 k n h => obtain ⟨rfl, rfl⟩ := h; rw [digs_nil]; intro c hc; simp at hc
  | case2 k n h ih =>
    rw [digs_step h]
    intro c hc
    rcases List.mem_append.1 hc with h1 | h1
    · exact ih c h1
    · rw [List.mem_singleton.1 h1, dgt]; omega

theorem fold_digs : ∀ (k n : Nat), n < 18446744073709551616 → foldN 0 (digs k n) = n := by
  intro k n
  induction k, n using digs.induct with
  | case1 k n h => intro _; obtain ⟨rfl, rfl⟩ := h; rw [digs_nil]; rfl
  | case2 k n h ih =>
    intro hn
    rw [digs_step h, foldN_app _ _ _ (digs_dig _ _), ih (by omega), foldN, if_pos (by rw [dgt]; omega), dgt]
    show _ % _ = n
    omega

/-- Digits end where something else begins. -/
theorem fold_stop (post : List UInt8) (hp : ∀ c r, post = c :: r → ¬(48 ≤ c.toNat ∧ c.toNat ≤ 57)) (a : Nat) : foldN a post = a := by
  cases post with
  | nil => rfl
  | cons c r => rw [foldN, if_neg (hp c r rfl)]

theorem fold_nm {pre post : List UInt8} (hp : ∀ c r, post = c :: r → ¬(48 ≤ c.toNat ∧ c.toNat ≤ 57)) {n : Nat} (hn : n < 18446744073709551616) : foldN 0 ((nmL pre post n).drop pre.length) = n := by
  unfold nmL
  rw [List.drop_left, foldN_app _ _ _ (digs_dig _ _), fold_digs _ _ hn, fold_stop _ hp]

/-- What a name says. -/
def NumIs (pre post s : List UInt8) (v : Nat) (b : Bool) : Prop := (b = true ∧ v < 18446744073709551616 ∧ s = nmL pre post v) ∨ (b = false ∧ v = 0 ∧ ∀ n, n < 18446744073709551616 → s ≠ nmL pre post n)

theorem NumIs.unique {pre post s : List UInt8} (hp : ∀ c r, post = c :: r → ¬(48 ≤ c.toNat ∧ c.toNat ≤ 57)) {v v' : Nat} {b b' : Bool} (h : NumIs pre post s v b) (h' : NumIs pre post s v' b') : v = v' ∧ b = b' := by
  rcases h with ⟨rfl, h1, h2⟩ | ⟨rfl, rfl, h3⟩ <;> rcases h' with ⟨rfl, h1', h2'⟩ | ⟨rfl, rfl, h3'⟩
  · have a := fold_nm (pre := pre) hp h1
    have c := fold_nm (pre := pre) hp h1'
    rw [← h2] at a
    rw [← h2', a] at c
    exact ⟨c, rfl⟩
  · exact absurd h2 (h3' _ h1)
  · exact absurd h2' (h3 _ h1')
  · exact ⟨rfl, rfl⟩

theorem NumIs.self (pre post : List UInt8) {v : Nat} (h : v < 18446744073709551616) : NumIs pre post (nmL pre post v) v true := .inl ⟨rfl, h, rfl⟩

theorem numIs_ref {pre post s : List UInt8} (hp : ∀ c r, post = c :: r → ¬(48 ≤ c.toNat ∧ c.toNat ≤ 57)) :
    (s = nmL pre post (foldN 0 (s.drop pre.length)) → NumIs pre post s (foldN 0 (s.drop pre.length)) true) ∧ (s ≠ nmL pre post (foldN 0 (s.drop pre.length)) → NumIs pre post s 0 false) := by
  have hl := foldN_lt (s.drop pre.length) 0 (by omega)
  refine ⟨fun h => .inl ⟨rfl, hl, h⟩, fun h => .inr ⟨rfl, rfl, fun n hn e => h ?_⟩⟩
  have := fold_nm (pre := pre) hp hn
  rw [← e] at this
  rw [this]
  exact e

/-- With the beginning cut off. -/
theorem nm_cut (pre : List UInt8) (n : Nat) : hasPrefix (nmL pre [] n) pre = true ∧ trimPrefix (nmL pre [] n) pre = digs 6 n := by
  have h : hasPrefix (nmL pre [] n) pre = true := by
    unfold hasPrefix nmL
    exact List.isPrefixOf_iff_prefix.2 (List.prefix_append _ _)
  refine ⟨h, ?_⟩
  unfold trimPrefix
  rw [if_pos h]
  unfold nmL
  rw [List.drop_left, List.append_nil]
/-- With the end cut off. -/
theorem nm_cut_end (post : List UInt8) (n : Nat) : hasSuffix (nmL [] post n) post = true ∧ trimSuffix (nmL [] post n) post = digs 6 n := by
  have h : hasSuffix (nmL [] post n) post = true := by
    unfold hasSuffix nmL
    exact List.isSuffixOf_iff_suffix.2 (by rw [List.nil_append]; exact List.suffix_append _ _)
  refine ⟨h, ?_⟩
  unfold trimSuffix
  rw [if_pos h]
  unfold nmL
  rw [List.nil_append, List.length_append, Nat.add_sub_cancel, List.take_left]

end Go.Proofs.YtnademkndfecoaaDoor
