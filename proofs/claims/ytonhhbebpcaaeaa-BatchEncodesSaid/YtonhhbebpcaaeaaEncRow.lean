/- The row of the law BatchEncodes, proved: for every input the law returns true and each argument reads behind the call as it read before. -/
import Derived.Test.YtonhhbebpcaaeaaLawD
import Derived.Test.YtonhhbebpcaaeaaRowR
import Derived.Test.YtonhhbebpcaaeaaRows
namespace Go.Proofs.Ytonhhbebpcaaeaa
open Go.ChangeShapes Go.WideShapes Go.ChangeAt Go.RowKit

set_option maxHeartbeats 1000000 in
set_option maxRecDepth 100000 in
theorem batchEncodes_lifted (os : Os) (started : os.Started) (H : Type) (enc : TypeId × Value → H) :
    ReturnsInHanded {} Try.checked os 4 .any (Rows.batchEncodesSpec.pre6 enc Try.prog Try.f4 Rows.batchEncodesRow.domain false) (Rows.batchEncodesSpec.post enc Try.prog Try.f4 false true false false) := by
  refine returnsInHanded_of_change_shaped (C := Try.checked) Try.own started (by kernel_rfl) Try.func4
    (ChangeSpec.witness6 (enc := enc) (C := Try.checked) false ⟨#[], #[.int .u64 0, .slice none 0 0], []⟩ 8 (by kernel_rfl) (by kernel_rfl) (by kernel_rfl) (by kernel_rfl)) ?_
  intro W base args ds gs before hval0 hW _ hsz0 _ _
  have hW' := hW
  obtain ⟨p, q, hA0, hV, rfl, _, _⟩ := hW
  obtain ⟨rfl, rfl⟩ := trodVars_none hV
  have hval : ∀ (j : Nat) t v, Try.f4.params[j]? = some t → args[j]? = some v → Value.okWide Try.prog W .any base t v := hval0
  have hA : DataW.TrodAll enc Try.prog W 0 (fun _ => true) true Try.f4.params.toList args.toList ds p := hA0
  have hsz : (DataW.weightsEach Try.prog (Try.f4.params.toList ++ []) (ds ++ [])).all (· ≤ reachBytes) = true := hsz0
  clear hA0 hval0 hsz0
  rw [Try.params4] at hA hval hsz
  obtain ⟨v0, v1, d0, d1, p0, p1, rfl, rfl, rfl, h0, h1⟩ := trodAll_two hA
  obtain ⟨seq, rfl, rfl, rfl, hwf⟩ := open_int Try.underlying38 (hval 0 38 v0 rfl rfl) h0
  obtain ⟨a0, len0, cap0, rfl⟩ := okWide_slice Try.underlying39 (hval 1 39 v1 rfl rfl)
  obtain ⟨rs, hR⟩ := opened_rsl h1 (by
    simp only [List.append_nil, DataW.weightsEach, List.all_append, Bool.and_eq_true] at hsz
    exact hsz.2)
  have hk1 : IntKind.u64.min = 0 := rfl
  have hk2 : IntKind.u64.max = 18446744073709551615 := rfl
  simp only [Lit.wf, Bool.and_eq_true, decide_eq_true_eq, hk1, hk2] at hwf
  obtain ⟨n, rfl⟩ := Int.eq_ofNat_of_zero_le hwf.1
  refine (batchEncodes_w n (by omega) a0 len0 cap0 rs W hR).mono fun e W' ⟨he, hb⟩ => ?_
  subst he
  exact ⟨_, rfl, post_true Try.laidOut rfl rfl Try.underlying4 (of_decide_eq_true (by kernel_rfl)) hW' hb rfl⟩

theorem batchEncodes_holds : Rows.BatchEncodesSaid :=
  OpenClaim.holds_of_wide 4 Try.f4 rfl rfl rfl rfl rfl rfl rfl ⟨rfl, rfl, rfl, rfl, rfl⟩ rfl rfl rfl rfl rfl (by kernel_rfl) Try.func4 (by kernel_rfl)
    (of_decide_eq_true (by kernel_rfl)) (by unfold Func.isWrapper; rw [if_neg (by decide +kernel)]; exact ⟨rfl, rfl⟩)
    (fun os started H enc _ => batchEncodes_lifted os started H enc)

end Go.Proofs.Ytonhhbebpcaaeaa
