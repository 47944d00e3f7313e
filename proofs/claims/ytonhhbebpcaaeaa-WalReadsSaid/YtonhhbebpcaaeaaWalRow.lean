/- The row of the law WalReads, proved: for every input the law returns true and each argument reads behind the call as it read before. -/
import Derived.Test.YtonhhbebpcaaeaaWalN
import Derived.Test.YtonhhbebpcaaeaaRow
namespace Go.Proofs.Ytonhhbebpcaaeaa
open Go.ChangeShapes Go.WideShapes Go.ChangeAt Go.RowKit

set_option maxHeartbeats 1000000 in
set_option maxRecDepth 100000 in
theorem walReads_lifted (os : Os) (started : os.Started) (H : Type) (enc : TypeId × Value → H) :
    ReturnsInHanded {} Try.checked os 3 .any (Rows.walReadsSpec.pre6 enc Try.prog Try.f3 Rows.walReadsRow.domain false) (Rows.walReadsSpec.post enc Try.prog Try.f3 false true false false) := by
  refine returnsInHanded_of_change_shaped (C := Try.checked) Try.own started (by kernel_rfl) Try.func3
    (ChangeSpec.witness6 (enc := enc) (C := Try.checked) false ⟨#[], #[.slice none 0 0, .int .u32 0], []⟩ 8 (by kernel_rfl) (by kernel_rfl) (by kernel_rfl) (by kernel_rfl)) ?_
  intro W base args ds gs before hval0 hW _ hsz0 _ _
  have hW' := hW
  obtain ⟨p, q, hA0, hV, rfl, _, _⟩ := hW
  obtain ⟨rfl, rfl⟩ := trodVars_none hV
  have hval : ∀ (j : Nat) t v, Try.f3.params[j]? = some t → args[j]? = some v → Value.okWide Try.prog W .any base t v := hval0
  have hA : DataW.TrodAll enc Try.prog W 0 (fun _ => true) true Try.f3.params.toList args.toList ds p := hA0
  have hsz : (DataW.weightsEach Try.prog (Try.f3.params.toList ++ []) (ds ++ [])).all (· ≤ reachBytes) = true := hsz0
  clear hA0 hval0 hsz0
  rw [Try.params3] at hA hval hsz
  obtain ⟨v0, v1, d0, d1, p0, p1, rfl, rfl, rfl, h0, h1⟩ := trodAll_two hA
  obtain ⟨a0, len0, cap0, rfl⟩ := okWide_slice Try.underlying22 (hval 0 22 v0 rfl rfl)
  obtain ⟨log, rfl, rfl, rfl, hwf⟩ := open_int Try.underlying23 (hval 1 23 v1 rfl rfl) h1
  obtain ⟨xs, hB, _⟩ := opened_bsl Try.underlying22 Try.underlying5 (by kernel_rfl) (by kernel_rfl) h0 (by
    simp only [List.append_nil, DataW.weightsEach, List.all_append, Bool.and_eq_true] at hsz
    exact hsz.1)
  have hk1 : IntKind.u32.min = 0 := rfl
  simp only [Lit.wf, Bool.and_eq_true, decide_eq_true_eq, hk1] at hwf
  obtain ⟨n, rfl⟩ := Int.eq_ofNat_of_zero_le hwf.1
  refine (walReads_w n len0 cap0 a0 xs W hB).mono fun e W' ⟨he, hb⟩ => ?_
  subst he
  exact ⟨_, rfl, post_true Try.laidOut rfl rfl Try.underlying4 (of_decide_eq_true (by kernel_rfl)) hW' hb rfl⟩

theorem walReads_holds : Rows.WalReadsSaid :=
  OpenClaim.holds_of_wide 3 Try.f3 rfl rfl rfl rfl rfl rfl rfl ⟨rfl, rfl, rfl, rfl, rfl⟩ rfl rfl rfl rfl rfl (by kernel_rfl) Try.func3 (by kernel_rfl)
    (of_decide_eq_true (by kernel_rfl)) (by unfold Func.isWrapper; rw [if_neg (by decide +kernel)]; exact ⟨rfl, rfl⟩)
    (fun os started H enc _ => walReads_lifted os started H enc)

end Go.Proofs.Ytonhhbebpcaaeaa
