/- The program's numbers of names (manifest.numbered, tables.numbered). -/
import Derived.Test.YtnademkndfecoaaDoorNmO
namespace Go.Proofs.YtnademkndfecoaaDoor
open Go.RowKit Go.Lib

theorem pum_le (M : Nat) : ∀ (l : List UInt8) (a m : Nat), parseUintM M a l = .ok m → a ≤ M → m ≤ M
  | [], a, m, h, ha => by injection h with h; omega
  | c :: r, a, m, h, ha => by
    rw [parseUintM] at h
    split at h
    · split at h
      · cases h
      · split at h
        · cases h
        · exact pum_le M r _ m h (by omega)
    · cases h
theorem pub_lt {l : List UInt8} {u : Nat} (h : parseUintB 64 l = .ok u) : u < 18446744073709551616 := by
  unfold parseUintB at h
  split at h
  · cases h
  · have := pum_le _ _ _ _ h (by omega)
    omega

theorem num_no_cut {pre s : List UInt8} (h : hasPrefix s pre = false) : NumIs pre [] s 0 false := .inr ⟨rfl, rfl, fun n _ e => by rw [e, (nm_cut pre n).1] at h; cases h⟩
theorem num_no_parse {pre s : List UInt8} (h : ∀ u, parseUintB 64 (trimPrefix s pre) ≠ .ok u) : NumIs pre [] s 0 false := .inr ⟨rfl, rfl, fun n hn e => h n (by rw [e, (nm_cut pre n).2]; exact parse_digs hn)⟩
theorem num_no_same {pre s : List UInt8} {u : Nat} (h : parseUintB 64 (trimPrefix s pre) = .ok u) (hq : ¬ nmL pre [] u = s) : NumIs pre [] s 0 false := .inr ⟨rfl, rfl, fun n hn e => hq (by
  have := parse_digs hn
  rw [← (nm_cut pre n).2, ← e, h] at this
  injection this with this
  rw [this, ← e])⟩
theorem num_no_cut' {post s : List UInt8} (h : hasSuffix s post = false) : NumIs [] post s 0 false := .inr ⟨rfl, rfl, fun n _ e => by rw [e, (nm_cut_end post n).1] at h; cases h⟩
theorem num_no_parse' {post s : List UInt8} (h : ∀ u, parseUintB 64 (trimSuffix s post) ≠ .ok u) : NumIs [] post s 0 false := .inr ⟨rfl, rfl, fun n hn e => h n (by rw [e, (nm_cut_end post n).2]; exact parse_digs hn)⟩
theorem num_no_same' {post s : List UInt8} {u : Nat} (h : parseUintB 64 (trimSuffix s post) = .ok u) (hq : ¬ nmL [] post u = s) : NumIs [] post s 0 false := .inr ⟨rfl, rfl, fun n hn e => hq (by
  have := parse_digs hn
  rw [← (nm_cut_end post n).2, ← e, h] at this
  injection this with this
  rw [this, ← e])⟩
theorem trimPrefix_len (s p : List UInt8) : (trimPrefix s p).length ≤ s.length := by unfold trimPrefix; split <;> simp
theorem trimSuffix_len (s p : List UInt8) : (trimSuffix s p).length ≤ s.length := by unfold trimSuffix; split <;> simp

/-- What the walks ask of the world: the table of powers of ten and the two errors of strconv. -/
structure NumVars (w : World) : Prop where
  tab : Lib.TabIs Tryd.prog w "internal/strconv.uint64pow10" .u64 Lib.pow10Tab
  syn : ∃ tp p, w.var? Tryd.prog "strconv.ErrSyntax" = some #[.iface tp p]
  rng : ∃ tp p, w.var? Tryd.prog "strconv.ErrRange" = some #[.iface tp p]

theorem var_stays {w w' : World} {n : String} {cs : Array Value} (h : w.var? Tryd.prog n = some cs) (hb : Below w.heap.size w w') : w'.var? Tryd.prog n = some cs := by
  unfold World.var? at *
  cases hg : Tryd.prog.globalNamed n with
  | none => simp [hg] at h
  | some g =>
    simp only [hg, Option.bind_some] at h ⊢
    have hlt : g < w.heap.size := by
      rcases Nat.lt_or_ge g w.heap.size with h' | h'
      · exact h'
      · rw [Array.getElem?_eq_none h'] at h; simp at h
    rw [hb.block g hlt]
    exact h
theorem NumVars.stays {w w' : World} (h : NumVars w) (hb : Below w.heap.size w w') : NumVars w' := by
  obtain ⟨h1, ⟨tp, p, h2⟩, ⟨tq, q, h3⟩⟩ := h
  exact ⟨Lib.tabBelow_of_tabIs h1 w' hb, ⟨tp, p, var_stays h2 hb⟩, ⟨tq, q, var_stays h3 hb⟩⟩

set_option maxHeartbeats 1000000 in
set_option maxRecDepth 100000 in
theorem manNumbered_w (s : ByteArray) (hs : s.size ≤ 140737488355328) (w : World) (hv : NumVars w) :
    Calls Tryd.prog 13 #[.string s] w fun e w' => (∃ (v : Nat) (b : Bool), e = .returned (.tuple #[.int .u64 v, .bool b]) ∧ NumIs [77, 65, 78, 73, 70, 69, 83, 84, 45] [] s.data.toList v b) ∧ Below w.heap.size w w' := by
  have hcp := Tryd.strings_CutPrefix s ⟨#[77, 65, 78, 73, 70, 69, 83, 84, 45]⟩ w
  rw [show (⟨#[77, 65, 78, 73, 70, 69, 83, 84, 45]⟩ : ByteArray).data.toList = [77, 65, 78, 73, 70, 69, 83, 84, 45] from rfl] at hcp
  have htl := trimPrefix_len s.data.toList [77, 65, 78, 73, 70, 69, 83, 84, 45]
  have h1 := fun h => num_no_cut (pre := [77, 65, 78, 73, 70, 69, 83, 84, 45]) (s := s.data.toList) h
  have h2 := fun h => num_no_parse (pre := [77, 65, 78, 73, 70, 69, 83, 84, 45]) (s := s.data.toList) h
  have h3 := fun u h => num_no_same (pre := [77, 65, 78, 73, 70, 69, 83, 84, 45]) (s := s.data.toList) (u := u) h
  generalize trimPrefix s.data.toList [77, 65, 78, 73, 70, 69, 83, 84, 45] = t at *
  generalize hasPrefix s.data.toList [77, 65, 78, 73, 70, 69, 83, 84, 45] = f at *
  have hts : (⟨t.toArray⟩ : ByteArray).size ≤ 281474976710656 := by rw [sz_arr]; rw [sz_list] at htl; omega
  have hpe : (⟨t.toArray⟩ : ByteArray).data.toList = t := rfl
  cases hp : parseUintB 64 t with
  | ok u =>
    have hu := pub_lt hp
    have hpu := (Tryd.strconv_ParseUint_10_at64_ok ⟨t.toArray⟩ (by omega) u hp w).mono (fun e w' (x : e = .returned (.tuple #[.int .u64 u, .nilIface]) ∧ (w' = w ∨ w' = Lib.bytesWorld w 5 ⟨t.toArray⟩)) => (show e = .returned (.tuple #[.int .u64 u, .nilIface]) ∧ Below w.heap.size w w' from ⟨x.1, x.2.elim (fun y => y ▸ Below.refl _ _) (fun y => y ▸ Lib.bytesWorld_below w 5 ⟨t.toArray⟩)⟩))
    replace h3 := h3 u hp
    clear h2 hp
    go_enter Tryd.func13, Tryd.ntmps13
    cases f with
    | false =>
      replace h1 := h1 rfl
      go_wp2_with (first | (go_at_call 17; refine hcp.mono ?_; rintro e w1 ⟨rfl, rfl⟩) | (go_at_call 18; refine hpu.mono ?_; rintro e w1 ⟨rfl, hb⟩))
      go_ret2
      exact ⟨⟨0, false, rfl, h1⟩, hb⟩
    | true =>
      clear h1
      by_cases hq : nmL [77, 65, 78, 73, 70, 69, 83, 84, 45] [] u = s.data.toList
      · have q1 : (!nmL [77, 65, 78, 73, 70, 69, 83, 84, 45] [] u == s.toList) = false := by rw [ByteArray.toList_eq, hq]; simp
        clear h3
        go_wp2_with (first | (go_at_call 17; refine hcp.mono ?_; rintro e w1 ⟨rfl, rfl⟩) | (go_at_call 18; refine hpu.mono ?_; rintro e w1 ⟨rfl, hb⟩) | (go_at_call 14; refine (manNamed_w u hu _ (hv.stays hb).tab).mono ?_; rintro e w2 ⟨rfl, hb2⟩))
        go_ret2
        exact ⟨⟨u, true, rfl, .inl ⟨rfl, hu, hq.symm⟩⟩, hb.trans (hb2.mono hb.size)⟩
      · replace h3 := h3 hq
        have q1 : (!nmL [77, 65, 78, 73, 70, 69, 83, 84, 45] [] u == s.toList) = true := by rw [ByteArray.toList_eq]; simp [hq]
        go_wp2_with (first | (go_at_call 17; refine hcp.mono ?_; rintro e w1 ⟨rfl, rfl⟩) | (go_at_call 18; refine hpu.mono ?_; rintro e w1 ⟨rfl, hb⟩) | (go_at_call 14; refine (manNamed_w u hu _ (hv.stays hb).tab).mono ?_; rintro e w2 ⟨rfl, hb2⟩))
        go_ret2
        exact ⟨⟨0, false, rfl, h3⟩, hb.trans (hb2.mono hb.size)⟩
  | range =>
    replace h2 := h2 (fun u => by rw [hp]; exact fun e => by cases e)
    obtain ⟨tp, p, hS⟩ := hv.rng
    have hpu := Tryd.strconv_ParseUint_10_at64_range_var ⟨t.toArray⟩ hts hp tp p w hS
    clear hp h1 h3 hS hv
    go_enter Tryd.func13, Tryd.ntmps13
    cases f <;> (
      go_wp2_with (first | (go_at_call 17; refine hcp.mono ?_; rintro e w1 ⟨rfl, rfl⟩) | (go_at_call 18; refine hpu.mono ?_; rintro e w1 ⟨N, rfl, hN, hc, hb⟩))
      go_ret2
      exact ⟨⟨0, false, rfl, h2⟩, hb⟩)
  | _ =>
    replace h2 := h2 (fun u => by rw [hp]; exact fun e => by cases e)
    obtain ⟨tp, p, hS⟩ := hv.syn
    have hpu := Tryd.strconv_ParseUint_10_at64_none ⟨t.toArray⟩ hts (fun u => by rw [show (⟨t.toArray⟩ : ByteArray).data.toList = t from rfl, hp]; exact fun e => by cases e) (by rw [show (⟨t.toArray⟩ : ByteArray).data.toList = t from rfl, hp]; exact fun e => by cases e) tp p w hS
    clear hp h1 h3 hS hv
    go_enter Tryd.func13, Tryd.ntmps13
    cases f <;> (
      go_wp2_with (first | (go_at_call 17; refine hcp.mono ?_; rintro e w1 ⟨rfl, rfl⟩) | (go_at_call 18; refine hpu.mono ?_; rintro e w1 ⟨N, rfl, hN, hc, hb⟩))
      go_ret2
      exact ⟨⟨0, false, rfl, h2⟩, hb⟩)

set_option maxHeartbeats 1000000 in
set_option maxRecDepth 100000 in
theorem tabNumbered_w (s : ByteArray) (hs : s.size ≤ 140737488355328) (w : World) (hv : NumVars w) :
    Calls Tryd.prog 15 #[.string s] w fun e w' => (∃ (v : Nat) (b : Bool), e = .returned (.tuple #[.int .u64 v, .bool b]) ∧ NumIs [] [46, 115, 115, 116] s.data.toList v b) ∧ Below w.heap.size w w' := by
  have hcp := Tryd.strings_CutSuffix s ⟨#[46, 115, 115, 116]⟩ w (by omega)
  rw [show (⟨#[46, 115, 115, 116]⟩ : ByteArray).data.toList = [46, 115, 115, 116] from rfl] at hcp
  have htl := trimSuffix_len s.data.toList [46, 115, 115, 116]
  have h1 := fun h => num_no_cut' (post := [46, 115, 115, 116]) (s := s.data.toList) h
  have h2 := fun h => num_no_parse' (post := [46, 115, 115, 116]) (s := s.data.toList) h
  have h3 := fun u h => num_no_same' (post := [46, 115, 115, 116]) (s := s.data.toList) (u := u) h
  generalize trimSuffix s.data.toList [46, 115, 115, 116] = t at *
  generalize hasSuffix s.data.toList [46, 115, 115, 116] = f at *
  have hts : (⟨t.toArray⟩ : ByteArray).size ≤ 281474976710656 := by rw [sz_arr]; rw [sz_list] at htl; omega
  have hpe : (⟨t.toArray⟩ : ByteArray).data.toList = t := rfl
  cases hp : parseUintB 64 t with
  | ok u =>
    have hu := pub_lt hp
    have hpu := (Tryd.strconv_ParseUint_10_at64_ok ⟨t.toArray⟩ (by omega) u hp w).mono (fun e w' (x : e = .returned (.tuple #[.int .u64 u, .nilIface]) ∧ (w' = w ∨ w' = Lib.bytesWorld w 5 ⟨t.toArray⟩)) => (show e = .returned (.tuple #[.int .u64 u, .nilIface]) ∧ Below w.heap.size w w' from ⟨x.1, x.2.elim (fun y => y ▸ Below.refl _ _) (fun y => y ▸ Lib.bytesWorld_below w 5 ⟨t.toArray⟩)⟩))
    replace h3 := h3 u hp
    clear h2 hp
    go_enter Tryd.func15, Tryd.ntmps15
    cases f with
    | false =>
      replace h1 := h1 rfl
      go_wp2_with (first | (go_at_call 21; refine hcp.mono ?_; rintro e w1 ⟨rfl, rfl⟩) | (go_at_call 18; refine hpu.mono ?_; rintro e w1 ⟨rfl, hb⟩))
      go_ret2
      exact ⟨⟨0, false, rfl, h1⟩, hb⟩
    | true =>
      clear h1
      by_cases hq : nmL [] [46, 115, 115, 116] u = s.data.toList
      · have q1 : (!nmL [] [46, 115, 115, 116] u == s.toList) = false := by rw [ByteArray.toList_eq, hq]; simp
        clear h3
        go_wp2_with (first | (go_at_call 21; refine hcp.mono ?_; rintro e w1 ⟨rfl, rfl⟩) | (go_at_call 18; refine hpu.mono ?_; rintro e w1 ⟨rfl, hb⟩) | (go_at_call 16; refine (tabNamed_w u hu _ (hv.stays hb).tab).mono ?_; rintro e w2 ⟨rfl, hb2⟩))
        go_ret2
        exact ⟨⟨u, true, rfl, .inl ⟨rfl, hu, hq.symm⟩⟩, hb.trans (hb2.mono hb.size)⟩
      · replace h3 := h3 hq
        have q1 : (!nmL [] [46, 115, 115, 116] u == s.toList) = true := by rw [ByteArray.toList_eq]; simp [hq]
        go_wp2_with (first | (go_at_call 21; refine hcp.mono ?_; rintro e w1 ⟨rfl, rfl⟩) | (go_at_call 18; refine hpu.mono ?_; rintro e w1 ⟨rfl, hb⟩) | (go_at_call 16; refine (tabNamed_w u hu _ (hv.stays hb).tab).mono ?_; rintro e w2 ⟨rfl, hb2⟩))
        go_ret2
        exact ⟨⟨0, false, rfl, h3⟩, hb.trans (hb2.mono hb.size)⟩
  | range =>
    replace h2 := h2 (fun u => by rw [hp]; exact fun e => by cases e)
    obtain ⟨tp, p, hS⟩ := hv.rng
    have hpu := Tryd.strconv_ParseUint_10_at64_range_var ⟨t.toArray⟩ hts hp tp p w hS
    clear hp h1 h3 hS hv
    go_enter Tryd.func15, Tryd.ntmps15
    cases f <;> (
      go_wp2_with (first | (go_at_call 21; refine hcp.mono ?_; rintro e w1 ⟨rfl, rfl⟩) | (go_at_call 18; refine hpu.mono ?_; rintro e w1 ⟨N, rfl, hN, hc, hb⟩))
      go_ret2
      exact ⟨⟨0, false, rfl, h2⟩, hb⟩)
  | _ =>
    replace h2 := h2 (fun u => by rw [hp]; exact fun e => by cases e)
    obtain ⟨tp, p, hS⟩ := hv.syn
    have hpu := Tryd.strconv_ParseUint_10_at64_none ⟨t.toArray⟩ hts (fun u => by rw [show (⟨t.toArray⟩ : ByteArray).data.toList = t from rfl, hp]; exact fun e => by cases e) (by rw [show (⟨t.toArray⟩ : ByteArray).data.toList = t from rfl, hp]; exact fun e => by cases e) tp p w hS
    clear hp h1 h3 hS hv
    go_enter Tryd.func15, Tryd.ntmps15
    cases f <;> (
      go_wp2_with (first | (go_at_call 21; refine hcp.mono ?_; rintro e w1 ⟨rfl, rfl⟩) | (go_at_call 18; refine hpu.mono ?_; rintro e w1 ⟨N, rfl, hN, hc, hb⟩))
      go_ret2
      exact ⟨⟨0, false, rfl, h2⟩, hb⟩)
end Go.Proofs.YtnademkndfecoaaDoor
