/- The laws' own walks: ManifestNames, TablesNames answer true. -/
import Derived.Test.YtnademkndfecoaaDoorNmR
namespace Go.Proofs.YtnademkndfecoaaDoor
open Go.RowKit Go.Lib

def NumPost (pre post s : List UInt8) (w : World) (e : Ending) (w' : World) : Prop := (∃ (v : Nat) (b : Bool), e = .returned (.tuple #[.int .u64 v, .bool b]) ∧ NumIs pre post s v b) ∧ Below w.heap.size w w'

set_option maxRecDepth 100000 in
theorem manNumber_w (s : ByteArray) (hs : s.size ≤ 140737488355328) (w : World) (hv : NumVars w) :
    Calls Tryd.prog 5 #[.string s] w (NumPost [77, 65, 78, 73, 70, 69, 83, 84, 45] [] s.data.toList w) := by
  go_enter Tryd.func5, Tryd.ntmps5
  go_wp2_with (go_at_call 13; refine (manNumbered_w s hs _ hv).mono ?_; rintro e w1 ⟨⟨v, b, rfl, hn⟩, hb⟩)
  go_ret2
  exact ⟨⟨v, b, rfl, hn⟩, hb⟩
set_option maxRecDepth 100000 in
theorem manName_w (u : Nat) (hu64 : u < 18446744073709551616) (w : World) (hv : NumVars w) :
    Calls Tryd.prog 7 #[.int .u64 u] w fun e w' => e = .returned (.string ⟨(nmL [77, 65, 78, 73, 70, 69, 83, 84, 45] [] u).toArray⟩) ∧ Below w.heap.size w w' := by
  go_enter Tryd.func7, Tryd.ntmps7
  go_wp2_with (go_at_call 14; refine (manNamed_w u hu64 _ hv.tab).mono ?_; rintro e w1 ⟨rfl, hb⟩)
  go_ret
  exact ⟨rfl, hb⟩
set_option maxRecDepth 100000 in
theorem tabNumber_w (s : ByteArray) (hs : s.size ≤ 140737488355328) (w : World) (hv : NumVars w) :
    Calls Tryd.prog 9 #[.string s] w (NumPost [] [46, 115, 115, 116] s.data.toList w) := by
  go_enter Tryd.func9, Tryd.ntmps9
  go_wp2_with (go_at_call 15; refine (tabNumbered_w s hs _ hv).mono ?_; rintro e w1 ⟨⟨v, b, rfl, hn⟩, hb⟩)
  go_ret2
  exact ⟨⟨v, b, rfl, hn⟩, hb⟩
set_option maxRecDepth 100000 in
theorem tabName_w (u : Nat) (hu64 : u < 18446744073709551616) (w : World) (hv : NumVars w) :
    Calls Tryd.prog 11 #[.int .u64 u] w fun e w' => e = .returned (.string ⟨(nmL [] [46, 115, 115, 116] u).toArray⟩) ∧ Below w.heap.size w w' := by
  go_enter Tryd.func11, Tryd.ntmps11
  go_wp2_with (go_at_call 16; refine (tabNamed_w u hu64 _ hv.tab).mono ?_; rintro e w1 ⟨rfl, hb⟩)
  go_ret
  exact ⟨rfl, hb⟩

theorem nm_size (pre post : List UInt8) (hp : pre.length ≤ 16) (hq : post.length ≤ 16) {n : Nat} (hn : n < 18446744073709551616) : (⟨(nmL pre post n).toArray⟩ : ByteArray).size ≤ 52 := by
  rw [sz_arr]
  unfold nmL
  rw [List.length_append, List.length_append]
  have := digs6_len hn
  omega

set_option maxHeartbeats 1000000 in
set_option maxRecDepth 100000 in
/-- The law: it answers true. -/
theorem manifestNames_w (n : Nat) (hn : n < 18446744073709551616) (s : ByteArray) (hs : s.size ≤ 140737488355328) (w : World) (hv : NumVars w) :
    Calls Tryd.prog 3 #[.int .u64 n, .string s] w fun e w' => e = .returned (.bool true) ∧ Below w.heap.size w w' := by
  have hz := nm_size [77, 65, 78, 73, 70, 69, 83, 84, 45] [] (by decide) (by decide) hn
  have hself := NumIs.self [77, 65, 78, 73, 70, 69, 83, 84, 45] [] hn
  go_enter Tryd.func3, Tryd.ntmps3
  go_wp2_with fail
  go_at_call 5
  refine (manNumber_w s hs _ hv).mono ?_
  rintro e w1 ⟨⟨v, b, rfl, h1⟩, hb1⟩
  go_wp2_with fail
  go_at_call 6
  refine (refNumber14_w s (by unfold maxLen; omega) _).mono ?_
  rintro e w2 ⟨⟨v', b', rfl, h2⟩, hb2⟩
  obtain ⟨rfl, rfl⟩ := h1.unique (fun c r e => by cases e) h2
  replace hb2 := hb1.trans (hb2.mono hb1.size)
  go_wp2_with fail
  go_at_call 7
  refine (manName_w n hn _ (hv.stays hb2)).mono ?_
  rintro e w3 ⟨rfl, hb3⟩
  replace hb3 := hb2.trans (hb3.mono hb2.size)
  go_wp2_with fail
  go_at_call 5
  refine (manNumber_w _ (by omega) _ (hv.stays hb3)).mono ?_
  rintro e w4 ⟨⟨v4, b4, rfl, h4⟩, hb4⟩
  obtain ⟨rfl, rfl⟩ := hself.unique (fun c r e => by cases e) h4
  replace hb4 := hb3.trans (hb4.mono hb3.size)
  go_wp2_with fail
  go_at_call 7
  refine (manName_w n hn _ (hv.stays hb4)).mono ?_
  rintro e w5 ⟨rfl, hb5⟩
  replace hb5 := hb4.trans (hb5.mono hb4.size)
  go_wp2_with fail
  go_at_call 8
  refine (refName14_w n hn _).mono ?_
  rintro e w6 ⟨rfl, hb6⟩
  replace hb6 := hb5.trans (hb6.mono hb5.size)
  clear h1 h2 h4 hself hz
  go_wp2
  go_ret
  refine ⟨?_, hb6⟩
  simp

set_option maxHeartbeats 1000000 in
set_option maxRecDepth 100000 in
/-- The law: it answers true. -/
theorem tablesNames_w (n : Nat) (hn : n < 18446744073709551616) (s : ByteArray) (hs : s.size ≤ 140737488355328) (w : World) (hv : NumVars w) :
    Calls Tryd.prog 4 #[.int .u64 n, .string s] w fun e w' => e = .returned (.bool true) ∧ Below w.heap.size w w' := by
  have hz := nm_size [] [46, 115, 115, 116] (by decide) (by decide) hn
  have hself := NumIs.self [] [46, 115, 115, 116] hn
  go_enter Tryd.func4, Tryd.ntmps4
  go_wp2_with fail
  go_at_call 9
  refine (tabNumber_w s hs _ hv).mono ?_
  rintro e w1 ⟨⟨v, b, rfl, h1⟩, hb1⟩
  go_wp2_with fail
  go_at_call 10
  refine (refNumber12_w s (by unfold maxLen; omega) _).mono ?_
  rintro e w2 ⟨⟨v', b', rfl, h2⟩, hb2⟩
  obtain ⟨rfl, rfl⟩ := h1.unique (fun c r e => by cases e; decide) h2
  replace hb2 := hb1.trans (hb2.mono hb1.size)
  go_wp2_with fail
  go_at_call 11
  refine (tabName_w n hn _ (hv.stays hb2)).mono ?_
  rintro e w3 ⟨rfl, hb3⟩
  replace hb3 := hb2.trans (hb3.mono hb2.size)
  go_wp2_with fail
  go_at_call 9
  refine (tabNumber_w _ (by omega) _ (hv.stays hb3)).mono ?_
  rintro e w4 ⟨⟨v4, b4, rfl, h4⟩, hb4⟩
  obtain ⟨rfl, rfl⟩ := hself.unique (fun c r e => by cases e; decide) h4
  replace hb4 := hb3.trans (hb4.mono hb3.size)
  go_wp2_with fail
  go_at_call 11
  refine (tabName_w n hn _ (hv.stays hb4)).mono ?_
  rintro e w5 ⟨rfl, hb5⟩
  replace hb5 := hb4.trans (hb5.mono hb4.size)
  go_wp2_with fail
  go_at_call 12
  refine (refName12_w n hn _).mono ?_
  rintro e w6 ⟨rfl, hb6⟩
  replace hb6 := hb5.trans (hb6.mono hb5.size)
  clear h1 h2 h4 hself hz
  go_wp2
  go_ret
  refine ⟨?_, hb6⟩
  simp
end Go.Proofs.YtnademkndfecoaaDoor
